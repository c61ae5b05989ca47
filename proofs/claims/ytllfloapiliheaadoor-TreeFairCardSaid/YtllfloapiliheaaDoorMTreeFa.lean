/- TreeFair0, TreeFair1, TreeFair, TreeFair2, one behind the other. -/
import Derived.Test.YtllfloapiliheaaDoorMTreeLe
import Derived.Test.YtllfloapiliheaaDoorMTreeRw
import Derived.Deep.DeepCutAuto
namespace Go.Proofs.YtllfloapiliheaaDoor.Tree
open HeapE (El)
open WheelR (Ri)
open Cal (ins Rises ins_mem ins_len ins_rises ins_behind)
/-- The ranks of a child, as they stand. -/
def rks (c : Nat) (l : List (Nat × El)) : List Nat := (l.filter (fun a => decide (a.2.1 = (c : Int)))).map (fun a => a.1)
theorem rks_cons (c : Nat) (a : Nat × El) (l : List (Nat × El)) : rks c (a :: l) = if a.2.1 = (c : Int) then a.1 :: rks c l else rks c l := by
  unfold rks
  by_cases h : a.2.1 = (c : Int)
  · rw [if_pos h, List.filter_cons_of_pos (by simpa using h)]; rfl
  · rw [if_neg h, List.filter_cons_of_neg (by simpa using h)]
theorem rks_ins_off {c t : Nat} {x : El} (h : x.1 ≠ (c : Int)) (l : List (Nat × El)) : rks c (ins t x l) = rks c l := by
  induction l with
  | nil => unfold ins; rw [rks_cons, if_neg h]
  | cons a l ih =>
    unfold ins
    split
    · rw [rks_cons, if_neg h]
    · rw [rks_cons, rks_cons, ih]
theorem rks_mem {c u : Nat} {l : List (Nat × El)} (h : u ∈ rks c l) : ∃ a ∈ l, a.1 = u := by
  obtain ⟨b, hb, hbu⟩ := List.mem_map.1 h
  exact ⟨b, (List.mem_filter.1 hb).1, hbu⟩
theorem rks_ins {c t : Nat} {x : El} (h : x.1 = (c : Int)) : ∀ {l : List (Nat × El)}, (∀ u ∈ rks c l, u ≤ t) → Rises l → rks c (ins t x l) = rks c l ++ [t]
  | [], _, _ => by unfold ins; rw [rks_cons, if_pos h]; rfl
  | a :: l, hl, hr => by
    have hr2 := List.pairwise_cons.1 hr
    unfold ins
    split
    · rename_i hlt
      have hlt2 : t < a.1 := by
        first
          | exact hlt
          | exact of_decide_eq_true hlt
          | (simpa using hlt)
      have e : rks c (a :: l) = [] := by
        cases he : rks c (a :: l) with
        | nil => rfl
        | cons u r =>
          exfalso
          have hu : u ∈ rks c (a :: l) := by rw [he]; exact List.mem_cons_self ..
          have h1 := hl u hu
          obtain ⟨b, hbm, hbu⟩ := rks_mem hu
          rcases List.mem_cons.1 hbm with rfl | hbm
          · omega
          · have := hr2.1 b hbm; omega
      rw [rks_cons, if_pos h, e]; rfl
    · rw [rks_cons, rks_cons]
      by_cases ha : a.2.1 = (c : Int)
      · rw [if_pos ha, if_pos ha, rks_ins h (fun u hu => hl u (by rw [rks_cons, if_pos ha]; exact List.mem_cons_of_mem _ hu)) hr2.2]; rfl
      · rw [if_neg ha, if_neg ha, rks_ins h (fun u hu => hl u (by rw [rks_cons, if_neg ha]; exact hu)) hr2.2]
/-- Ranks that follow one another. -/
def chn (w : Nat) : Nat → List Nat → List Nat
  | _, [] => []
  | r, x :: t => r :: chn w (r + w * x) t
def fin_ (w : Nat) : Nat → List Nat → Nat
  | r, [] => r
  | r, x :: t => fin_ w (r + w * x) t
theorem fin_le (w : Nat) : ∀ (ls : List Nat) (r : Nat), r ≤ fin_ w r ls
  | [], _ => Nat.le_refl _
  | x :: t, r => Nat.le_trans (Nat.le_add_right _ _) (fin_le w t (r + w * x))
theorem chn_le (w : Nat) : ∀ (ls : List Nat) (r u : Nat), u ∈ chn w r ls → u ≤ fin_ w r ls
  | [], _, _, h => by cases h
  | x :: t, r, u, h => by
    rcases List.mem_cons.1 h with rfl | h
    · exact fin_le w (x :: t) _
    · exact chn_le w t _ u h
theorem chn_snoc (w x : Nat) : ∀ (ls : List Nat) (r : Nat), chn w r (ls ++ [x]) = chn w r ls ++ [fin_ w r ls]
  | [], _ => rfl
  | y :: t, r => by
    show r :: chn w (r + w * y) (t ++ [x]) = r :: (chn w (r + w * y) t ++ [fin_ w (r + w * y) t])
    rw [chn_snoc w x t]
theorem fin_snoc (w x : Nat) : ∀ (ls : List Nat) (r : Nat), fin_ w r (ls ++ [x]) = fin_ w r ls + w * x
  | [], _ => rfl
  | y :: t, r => fin_snoc w x t (r + w * y)
def lens (l : List (Nat × El)) : List Nat := l.map (fun a => a.2.2.2.2)
/-- What the law knows of a tree of the kind Fair: of each leaf the rank of its first packet; b: no number is above it. -/
structure Fr (sh : Sh) (ws : List Nat) (s : TS) (W : List Nat) (Hd : Nat → Nat) (b : Nat) : Prop where
  H : s.H = []
  now : s.now = 0
  len : W.length = ws.length
  cnt : ∀ i x, W[i]? = some x → (s.q (i + 1)).length = x
  zero : ∀ i, i < ws.length → ∀ a ∈ s.q (i + 1), a.1 = 0 ∧ a.2.2.1 = i
  ris : Rises (s.q 0)
  chn : ∀ i (h : i < ws.length), rks (i + 1) (s.q 0) = Tree.chn ws[i] (Hd i) (lens (s.q (i + 1))) ∧ s.tg (i + 1) = fin_ ws[i] (Hd i) (lens (s.q (i + 1)))
  lo : ∀ i, i < ws.length → s.q (i + 1) ≠ [] → s.vi 0 ≤ Hd i
  hi : ∀ i (h : i < ws.length), Hd i ≤ s.vi 0 + ws[i] * 65535
  bd : s.vi 0 ≤ b ∧ ∀ i, i < ws.length → s.tg (i + 1) ≤ b
section
variable {sh : Sh} {s : TS} {room b : Nat} {ws W : List Nat} {Hd : Nat → Nat}
theorem Fr.push (hf : FlatSh sh 3 ws 0) (hw : ∀ x ∈ ws, x < 4294967296) (h : Fr sh ws s W Hd b) {i x : Nat} (hi : i < ws.length) (hx : W[i]? = some x) (id len : Nat) (hl : len ≤ 65535) (hb : b + 281474976710656 ≤ 18446744073709551615) :
    ∃ Hd', Fr sh ws (put1 sh s i (i, id, len)) (W.set i (x + 1)) Hd' (b + 281474976710656) ∧ (∀ j, s.q (j + 1) ≠ [] → Hd' j = Hd j) ∧ (put1 sh s i (i, id, len)).vi 0 = s.vi 0 := by
  have hq := put1_q (s := s) hf i (i, id, len) (fun a ha => (h.zero i hi a ha).1)
  obtain ⟨hc1, hc2⟩ := h.chn i hi
  have hlo := h.lo i hi
  have hhi := h.hi i hi
  obtain ⟨hbv, hbt⟩ := h.bd
  have hbt1 := hbt i hi
  have hwi := hw _ (List.getElem_mem hi)
  have hvi := put1_vi (sh := sh) (s := s) i (i, id, len)
  obtain ⟨r, hr⟩ : ∃ r, max (s.vi 0) (s.tg (i + 1)) = r := ⟨_, rfl⟩
  have hwl : ws[i] * len ≤ 281474976710655 := Nat.le_trans (Nat.mul_le_mul (show ws[i] ≤ 4294967295 by omega) hl) (by decide)
  have hrk : rk sh { s with m := s.m + 1 } 0 (chi (i + 1)) = r := by
    unfold rk
    rw [hf.k0, if_neg (by omega), if_neg (by omega), hf.l0 (by omega), if_neg (by simp)]
    show max (s.vi 0) (s.tg (((i + 1 : Nat) : Int)).toNat) = r
    rw [Int.toNat_natCast]; exact hr
  have htg : (put1 sh s i (i, id, len)).tg = up s.tg (i + 1) (r + ws[i] * len) := by
    rw [put1_tg hf (by omega), if_pos rfl, hr, hf.w1 i hi]
    unfold mad
    show up s.tg (i + 1) (min (r + ws[i] * len) 18446744073709551615) = _
    rw [Nat.min_eq_left (by omega)]
  have hfl := fin_le ws[i] (lens (s.q (i + 1))) (Hd i)
  refine ⟨fun j => if j = i ∧ s.q (i + 1) = [] then r else Hd j, ⟨by rw [put1_H]; exact h.H, by rw [put1_now]; exact h.now, by rw [List.length_set]; exact h.len, fun j y hy => ?_, fun j hj a ha => ?_, ?_, fun j hj => ?_, fun j hj hne => ?_, fun j hj => ?_, ?_, fun j hj => ?_⟩, fun j hj => ?_, by rw [hvi]⟩
  · rw [hq, if_neg (by omega)]
    rw [List.getElem?_set] at hy
    by_cases e : i = j
    · subst e
      rw [if_pos rfl, if_pos (by rw [h.len]; exact hi)] at hy
      rw [if_pos rfl, List.length_append, h.cnt i x hx]
      exact Option.some.inj hy
    · rw [if_neg e] at hy
      rw [if_neg (by omega)]
      exact h.cnt j y hy
  · rw [hq, if_neg (by omega)] at ha
    by_cases e : j = i
    · subst e
      rw [if_pos rfl] at ha
      rcases List.mem_append.1 ha with ha | ha
      · exact h.zero j hj a ha
      · rw [List.mem_singleton] at ha; subst ha; exact ⟨rfl, rfl⟩
    · rw [if_neg (by omega)] at ha
      exact h.zero j hj a ha
  · rw [hq, if_pos rfl]
    exact ins_rises h.ris
  · have e0 : (put1 sh s i (i, id, len)).q 0 = ins r (chi (i + 1)) (s.q 0) := by rw [hq, if_pos rfl, hrk]
    have e1 : (put1 sh s i (i, id, len)).q (j + 1) = if j + 1 = i + 1 then s.q (i + 1) ++ [(0, ((0 : Int), (i, id, len)))] else s.q (j + 1) := by rw [hq, if_neg (Nat.succ_ne_zero j)]
    rw [e0, e1, htg]
    by_cases e : j = i
    · subst e
      rw [if_pos rfl, up_at]
      have hall : ∀ u ∈ rks (j + 1) (s.q 0), u ≤ r := fun u hu => by
        rw [hc1] at hu
        have := chn_le _ _ _ u hu
        omega
      rw [rks_ins (show (chi (j + 1)).1 = ((j + 1 : Nat) : Int) from rfl) hall h.ris, hc1]
      have el : lens (s.q (j + 1) ++ [(0, ((0 : Int), (j, id, len)))]) = lens (s.q (j + 1)) ++ [len] := by unfold lens; rw [List.map_append]; rfl
      rw [el, chn_snoc, fin_snoc]
      by_cases hE : s.q (j + 1) = []
      · rw [if_pos ⟨rfl, hE⟩, hE]
        exact ⟨rfl, rfl⟩
      · rw [if_neg (fun h => hE h.2)]
        have hre : r = fin_ ws[j] (Hd j) (lens (s.q (j + 1))) := by have := hlo hE; omega
        rw [← hre]
        exact ⟨rfl, rfl⟩
    · rw [if_neg (by omega), up_off _ (by omega), rks_ins_off (fun h9 => e (by have : ((i + 1 : Nat) : Int) = ((j + 1 : Nat) : Int) := h9; omega))]
      rw [if_neg (show ¬ (j + 1 = i + 1) by omega)]
      exact h.chn j hj
  · rw [hvi]
    by_cases hE : j = i ∧ s.q (i + 1) = []
    · rw [if_pos hE]; omega
    · rw [if_neg hE]
      rw [hq, if_neg (by omega)] at hne
      by_cases e : j = i
      · subst e
        exact h.lo j hj (fun h9 => hE ⟨rfl, h9⟩)
      · rw [if_neg (by omega)] at hne
        exact h.lo j hj hne
  · rw [hvi]
    by_cases hE : j = i ∧ s.q (i + 1) = []
    · rw [if_pos hE]
      obtain ⟨rfl, hE⟩ := hE
      rw [hE] at hc2
      have hc2 : s.tg (j + 1) = Hd j := hc2
      omega
    · rw [if_neg hE]; exact h.hi j hj
  · rw [hvi]; omega
  · rw [htg]
    have := hbt j hj
    unfold up
    split
    · omega
    · omega
  · exact if_neg (fun h9 => hj (by rw [h9.1]; exact h9.2))
theorem Fr.pop (hs : sh.Ok) (hf : FlatSh sh 3 ws 0) (hw : 0 < ws.length) (hg : Good sh room s) (h : Fr sh ws s W Hd b) :
    (∃ v, v ≠ 0 ∧ pop sh s 0 = ((0, 0, 0), v, s)) ∨
    ∃ i id len x s', ∃ hi : i < ws.length, pop sh s 0 = ((i, id, len), 0, s') ∧ W[i]? = some (x + 1) ∧ len ≤ 65535 ∧ Fr sh ws s' (W.set i x) (up Hd i (Hd i + ws[i] * len)) b := by
  have hp : pass sh s 0 = s := pass_still h.H 0 (Nat.zero_le _)
  rcases flat_pop hs hf hw hp hg with ⟨h1, _⟩ | ⟨h1, _⟩ | ⟨r, t0, i, r1, p, t1, h1, h2, h3, h4⟩
  · exact .inl ⟨18, by omega, h1⟩
  · exact .inl ⟨19, by omega, h1⟩
  · right
    have hn := hf.n
    obtain ⟨hz1, hz2⟩ := h.zero i h2 _ (by rw [h3]; exact List.mem_cons_self ..)
    have hpk := hg.bal.lf (i + 1) (by omega) (hf.l1 i) _ (by rw [h3]; exact List.mem_cons_self ..)
    obtain ⟨p1, p2, p3⟩ := p
    have hz2 : p1 = i := hz2
    subst hz2
    have hp3 : p3 ≤ 65535 := hpk.2.2.2
    obtain ⟨hc1, hc2⟩ := h.chn p1 h2
    have hel : lens (s.q (p1 + 1)) = p3 :: lens t1 := by rw [h3]; rfl
    rw [hel] at hc1 hc2
    rw [h1, rks_cons, if_pos (show ((r, chi (p1 + 1)) : Nat × El).2.1 = ((p1 + 1 : Nat) : Int) from rfl)] at hc1
    change r :: rks (p1 + 1) t0 = Hd p1 :: Tree.chn (ws[p1]'h2) (Hd p1 + ws[p1] * p3) (lens t1) at hc1
    injection hc1 with hr hc1
    change s.tg (p1 + 1) = fin_ ws[p1] (Hd p1 + ws[p1] * p3) (lens t1) at hc2
    have hlo := h.lo p1 h2 (by rw [h3]; simp)
    have hlen : (s.q (p1 + 1)).length = t1.length + 1 := by rw [h3]; rfl
    have hWi : W[p1]? = some (W[p1]'(by rw [h.len]; exact h2)) := List.getElem?_eq_getElem _
    have hWx := h.cnt p1 _ hWi
    rw [hlen] at hWx
    rw [← hWx] at hWi
    have hri := h.ris
    rw [h1] at hri
    have hri2 := List.pairwise_cons.1 hri
    have hvi : (got sh s r t0 p1 t1).vi 0 = r := by rw [got_vi, hf.k0, if_pos rfl, up_at]
    have hwp : ws[p1] * p3 ≤ ws[p1] * 65535 := Nat.mul_le_mul_left _ hp3
    refine ⟨p1, p2, p3, t1.length, _, h2, h4, hWi, hp3, ⟨by rw [got_H]; exact h.H, by rw [got_now]; exact h.now, by rw [List.length_set]; exact h.len, fun j z hz => ?_, fun j hj a ha => ?_, ?_, fun j hj => ?_, fun j hj hne => ?_, fun j hj => ?_, ?_, fun j hj => ?_⟩⟩
    · rw [List.getElem?_set] at hz
      by_cases e : p1 = j
      · subst e
        rw [if_pos rfl, if_pos (by rw [h.len]; exact h2)] at hz
        rw [got_q, if_pos rfl]
        exact Option.some.inj hz
      · rw [if_neg e] at hz
        rw [got_q, if_neg (by omega), if_neg (by omega)]
        exact h.cnt j z hz
    · rw [got_q] at ha
      by_cases e : j = p1
      · subst e
        rw [if_pos rfl] at ha
        exact h.zero j hj a (by rw [h3]; exact List.mem_cons_of_mem _ ha)
      · rw [if_neg (by omega), if_neg (by omega)] at ha
        exact h.zero j hj a ha
    · rw [got_q, if_neg (by omega), if_pos rfl]
      exact hri2.2
    · have e0 : (got sh s r t0 p1 t1).q 0 = t0 := by rw [got_q, if_neg (by omega), if_pos rfl]
      have e1 : (got sh s r t0 p1 t1).q (j + 1) = if j + 1 = p1 + 1 then t1 else s.q (j + 1) := by rw [got_q, if_neg (Nat.succ_ne_zero j)]
      rw [e0, e1, got_tg]
      by_cases e : j = p1
      · subst e
        rw [if_pos rfl, up_at]
        exact ⟨hc1, hc2⟩
      · rw [if_neg (by omega), up_off _ e]
        have h9 := h.chn j hj
        rw [h1, rks_cons, if_neg (show ¬ ((r, chi (p1 + 1)) : Nat × El).2.1 = ((j + 1 : Nat) : Int) from fun h => e (by have : ((p1 + 1 : Nat) : Int) = ((j + 1 : Nat) : Int) := h; omega))] at h9
        exact h9
    · rw [hvi]
      by_cases e : j = p1
      · subst e
        rw [up_at]; omega
      · rw [up_off _ e]
        have hne2 : s.q (j + 1) ≠ [] := by rw [got_q, if_neg (by omega), if_neg (by omega)] at hne; exact hne
        cases hl : lens (s.q (j + 1)) with
        | nil => exact absurd (List.map_eq_nil_iff.1 hl) hne2
        | cons y t =>
          have h9 := (h.chn j hj).1
          rw [hl] at h9
          obtain ⟨a, ha, hau⟩ := rks_mem (c := j + 1) (l := s.q 0) (u := Hd j) (by rw [h9]; exact List.mem_cons_self ..)
          rw [h1] at ha
          rcases List.mem_cons.1 ha with rfl | ha
          · exact Nat.le_of_eq hau
          · have := hri2.1 a ha
            have : r ≤ a.1 := this
            omega
    · rw [hvi]
      by_cases e : j = p1
      · subst e
        rw [up_at]; omega
      · rw [up_off _ e]
        have := h.hi j hj
        omega
    · rw [hvi, hr]
      have h9 := h.bd.2 p1 h2
      have h8 := fin_le ws[p1] (lens t1) (Hd p1 + ws[p1] * p3)
      omega
    · rw [got_tg]
      exact h.bd.2 j hj
end
end Go.Proofs.YtllfloapiliheaaDoor.Tree
namespace Go.Proofs.YtllfloapiliheaaDoor.Tree
open Go.RowKit Go.Proofs BigFrame
set_option maxHeartbeats 4000000
set_option maxRecDepth 1000000
abbrev TIs : TypeId := 32
/-- What stands behind an act: its two rows; how many wait, what was sent, the first one's rank of each leaf; the virtual time. -/
structure Ent where
  vb : Value
  vh : Value
  W : List Nat
  S : Nat → Nat
  Hd : Nat → Nat
  V : Nat
/-- What an act leaves of leaves that wait. -/
def Lk (ws W : List Nat) (S Hd : Nat → Nat) (W' : List Nat) (S' Hd' : Nat → Nat) : Prop :=
  ∀ (f : Nat) (hf : f < ws.length) (x y : Nat), W[f]? = some x → 0 < x → W'[f]? = some y → 0 < y → S f ≤ S' f ∧ Hd f + ws[f] * S' f = Hd' f + ws[f] * S f
structure Eok (ws : List Nat) (e : Ent) : Prop where
  len : e.W.length = ws.length
  sb : ∀ f, f < ws.length → e.S f ≤ 10000000
  wb : ∀ x ∈ e.W, x ≤ 4096
  lh : ∀ (f : Nat) (hf : f < ws.length) (x : Nat), e.W[f]? = some x → 0 < x → e.V ≤ e.Hd f ∧ e.Hd f ≤ e.V + ws[f] * 65535
structure Lg (ws : List Nat) (log : List Ent) : Prop where
  each : ∀ e ∈ log, Eok ws e
  link : ∀ (j : Nat) (e e' : Ent), log[j]? = some e → log[j + 1]? = some e' → Lk ws e.W e.S e.Hd e'.W e'.S e'.Hd
section
variable {ws : List Nat} {log : List Ent}
theorem Lg.nil (ws : List Nat) : Lg ws [] := ⟨fun e he => (by cases he), fun j e e' h => (by simp at h)⟩
theorem Lg.snoc (h : Lg ws log) {e' : Ent} (h1 : Eok ws e') (h2 : ∀ e, log.getLast? = some e → Lk ws e.W e.S e.Hd e'.W e'.S e'.Hd) : Lg ws (log ++ [e']) := by
  refine ⟨fun e he => ?_, fun j a b ha hb => ?_⟩
  · rcases List.mem_append.1 he with he | he
    · exact h.each e he
    · rw [List.mem_singleton] at he; subst he; exact h1
  · rcases Nat.lt_or_ge (j + 1) log.length with hj | hj
    · rw [List.getElem?_append_left (by omega)] at ha
      rw [List.getElem?_append_left hj] at hb
      exact h.link j a b ha hb
    · have hj2 : j + 1 = log.length := by
        rcases Nat.lt_or_ge (j + 1) (log.length + 1) with h' | h'
        · omega
        · rw [List.getElem?_eq_none (by simp; omega)] at hb; cases hb
      rw [List.getElem?_append_left (by omega)] at ha
      rw [List.getElem?_append_right (by omega), hj2, Nat.sub_self] at hb
      obtain rfl : e' = b := by simpa using hb
      refine h2 a ?_
      rw [List.getLast?_eq_getElem?, show log.length - 1 = j by omega]
      exact ha
theorem Lg.span (h : Lg ws log) {f : Nat} (hf : f < ws.length) : ∀ (d i : Nat) (e e' : Ent), log[i]? = some e → log[i + d]? = some e' → (∀ (m : Nat) (e : Ent), i ≤ m → m ≤ i + d → log[m]? = some e → ∃ x, e.W[f]? = some x ∧ 0 < x) → e.S f ≤ e'.S f ∧ e.Hd f + ws[f] * e'.S f = e'.Hd f + ws[f] * e.S f
  | 0, i, e, e', he, he', _ => by
    rw [Nat.add_zero, he] at he'
    obtain rfl := Option.some.inj he'
    exact ⟨Nat.le_refl _, rfl⟩
  | d + 1, i, e, e', he, he', hp => by
    have hlt : i + d < log.length := by
      rcases Nat.lt_or_ge (i + (d + 1)) log.length with h' | h'
      · omega
      · rw [List.getElem?_eq_none h'] at he'; cases he'
    obtain ⟨m, hm⟩ : ∃ m, log[i + d]? = some m := ⟨_, List.getElem?_eq_getElem hlt⟩
    obtain ⟨h1, h2⟩ := Lg.span h hf d i e m he hm (fun q x h1 h2 h3 => hp q x h1 (by omega) h3)
    obtain ⟨x, hx1, hx2⟩ := hp _ m (by omega) (by omega) hm
    obtain ⟨y, hy1, hy2⟩ := hp _ e' (by omega) (Nat.le_refl _) he'
    obtain ⟨h3, h4⟩ := h.link (i + d) m e' hm he' f hf x y hx1 hx2 hy1 hy2
    exact ⟨by omega, by omega⟩
theorem Lg.half (h : Lg ws log) {f g : Nat} (hf : f < ws.length) (hg : g < ws.length) {i j : Nat} (hij : i ≤ j) {e e' : Ent} (he : log[i]? = some e) (he' : log[j]? = some e')
    (hp : ∀ (m : Nat) (e : Ent), i ≤ m → m ≤ j → log[m]? = some e → (∃ x, e.W[f]? = some x ∧ 0 < x) ∧ ∃ x, e.W[g]? = some x ∧ 0 < x) :
    e.S f ≤ e'.S f ∧ ws[f] * (e'.S f - e.S f) ≤ ws[g] * (e'.S g - e.S g) + (ws[f] + ws[g]) * 65535 := by
  obtain ⟨d, rfl⟩ : ∃ d, j = i + d := ⟨j - i, by omega⟩
  obtain ⟨a1, a2⟩ := h.span hf d i e e' he he' (fun m x h1 h2 h3 => (hp m x h1 h2 h3).1)
  obtain ⟨b1, b2⟩ := h.span hg d i e e' he he' (fun m x h1 h2 h3 => (hp m x h1 h2 h3).2)
  obtain ⟨⟨x1, x2, x3⟩, ⟨x4, x5, x6⟩⟩ := hp i e (Nat.le_refl _) (by omega) he
  obtain ⟨⟨y1, y2, y3⟩, ⟨y4, y5, y6⟩⟩ := hp (i + d) e' (by omega) (Nat.le_refl _) he'
  obtain ⟨c1, c2⟩ := (h.each e (List.mem_of_getElem? he)).lh f hf x1 x2 x3
  obtain ⟨c3, c4⟩ := (h.each e (List.mem_of_getElem? he)).lh g hg x4 x5 x6
  obtain ⟨c5, c6⟩ := (h.each e' (List.mem_of_getElem? he')).lh f hf y1 y2 y3
  obtain ⟨c7, c8⟩ := (h.each e' (List.mem_of_getElem? he')).lh g hg y4 y5 y6
  have p1 : ws[f] * (e'.S f - e.S f) + ws[f] * e.S f = ws[f] * e'.S f := by rw [← Nat.mul_add, Nat.sub_add_cancel a1]
  have p2 : ws[g] * (e'.S g - e.S g) + ws[g] * e.S g = ws[g] * e'.S g := by rw [← Nat.mul_add, Nat.sub_add_cancel b1]
  have p3 : (ws[f] + ws[g]) * 65535 = ws[f] * 65535 + ws[g] * 65535 := Nat.add_mul _ _ _
  exact ⟨a1, by omega⟩
end
/-- The rows of the log. -/
def rowB (K : Nat) (e : Ent) : Comp := rowW TU64 1 e.vb K ((List.range K).map (fun i => .int .u64 (e.S i : Nat)))
def rowH (K : Nat) (e : Ent) : Comp := rowW TI64 1 e.vh K (e.W.map (fun x => .int .i64 (x : Nat)))
def fairL (G gn K : Nat) (vb vh : Value) (W : List Nat) (S : Nat → Nat) (log : List Ent) (C : Comp) : List Comp :=
  [intC G K W, nextC gn K S, rowW TUs 1 vb log.length (log.map (fun e => e.vb)), rowW TIs 1 vh log.length (log.map (fun e => e.vh)), C] ++ (log.map (rowB K) ++ log.map (rowH K))
section
variable {w0 w w' : World} {G gn K : Nat} {vb vh : Value} {W : List Nat} {S : Nat → Nat} {log : List Ent} {C : Comp}
theorem Made.has {l : List Comp} {D : Comp} (h : Made w0 w l) (hD : D ∈ l) : ∃ o, D.P w o := by
  obtain ⟨l1, l2, rfl⟩ := List.append_of_mem hD
  obtain ⟨o, h1, _⟩ := Made.foc D l2 l1 h
  exact ⟨o, h1⟩
theorem f_int (Q : List Comp) (h : Made w0 w (Q ++ fairL G gn K vb vh W S log C)) {i x : Nat} (hx : W[i]? = some x) : w.cell? ⟨G, i, none⟩ = some (.int .i64 (x : Nat)) ∧ w.frozen? ⟨G, i, none⟩ = false :=
  int_at Q _ h hx
theorem f_iset (Q : List Comp) (h : Made w0 w (Q ++ fairL G gn K vb vh W S log C)) (i x : Nat) : Made w0 (w.setCell ⟨G, i, none⟩ (.int .i64 (x : Nat))) (Q ++ fairL G gn K vb vh (W.set i x) S log C) :=
  int_set Q _ h i x
theorem f_sent (Q : List Comp) (h : Made w0 w (Q ++ fairL G gn K vb vh W S log C)) {i : Nat} (hi : i < K) : w.cell? ⟨gn, i, none⟩ = some (.int .u64 (S i : Nat)) ∧ w.frozen? ⟨gn, i, none⟩ = false := by
  obtain ⟨o, h1⟩ := Made.has h (D := nextC gn K S) (List.mem_append_right _ (by simp [fairL]))
  exact rowW_cell h1 (by rw [List.getElem?_map, List.getElem?_range hi]; rfl)
theorem f_sset (Q : List Comp) (h : Made w0 w (Q ++ fairL G gn K vb vh W S log C)) (i x : Nat) : Made w0 (w.setCell ⟨gn, i, none⟩ (.int .u64 (x : Nat))) (Q ++ fairL G gn K vb vh W (up S i x) log C) := by
  have h' : Made w0 w ((Q ++ [intC G K W]) ++ nextC gn K S :: ([rowW TUs 1 vb log.length (log.map (fun e => e.vb)), rowW TIs 1 vh log.length (log.map (fun e => e.vh)), C] ++ (log.map (rowB K) ++ log.map (rowH K)))) := by rw [List.append_assoc]; exact h
  obtain ⟨o, h1, _, h3⟩ := Made.foc (nextC gn K S) _ _ h'
  obtain ⟨a1, a2⟩ := rowW_set h1 i (.int .u64 (x : Nat))
  rw [range_set] at a1
  have e : up (fun i => Value.int .u64 ((S i : Nat) : Int)) i (.int .u64 (x : Nat)) = fun j => .int .u64 (up S i x j : Nat) := funext fun j => by
    unfold up; split <;> rfl
  rw [e] at a1
  have h4 := h3 _ o (nextC gn K (up S i x)) a1 a2
  rw [List.append_assoc] at h4
  exact h4
theorem f_tree (Q : List Comp) (h : Made w0 w (Q ++ fairL G gn K vb vh W S log C)) : Made w0 w ((Q ++ [intC G K W, nextC gn K S, rowW TUs 1 vb log.length (log.map (fun e => e.vb)), rowW TIs 1 vh log.length (log.map (fun e => e.vh))]) ++ C :: (log.map (rowB K) ++ log.map (rowH K))) := by rw [List.append_assoc]; exact h
theorem f_tree' (Q : List Comp) (h : Made w0 w ((Q ++ [intC G K W, nextC gn K S, rowW TUs 1 vb log.length (log.map (fun e => e.vb)), rowW TIs 1 vh log.length (log.map (fun e => e.vh))]) ++ C :: (log.map (rowB K) ++ log.map (rowH K)))) : Made w0 w (Q ++ fairL G gn K vb vh W S log C) := by rw [List.append_assoc] at h; exact h
/-- Both outer rows, as they stand. -/
theorem f_outB (Q : List Comp) (h : Made w0 w (Q ++ fairL G gn K vb vh W S log C)) : w.ownsRow 0 TUs 1 vb log.length (log.map (fun e => e.vb)) := by
  obtain ⟨o, h1⟩ := Made.has h (D := rowW TUs 1 vb log.length (log.map (fun e => e.vb))) (List.mem_append_right _ (by simp [fairL]))
  exact h1.1
theorem f_outH (Q : List Comp) (h : Made w0 w (Q ++ fairL G gn K vb vh W S log C)) : w.ownsRow 0 TIs 1 vh log.length (log.map (fun e => e.vh)) := by
  obtain ⟨o, h1⟩ := Made.has h (D := rowW TIs 1 vh log.length (log.map (fun e => e.vh))) (List.mem_append_right _ (by simp [fairL]))
  exact h1.1
/-- An entry's rows. -/
theorem f_behind (Q : List Comp) (h : Made w0 w (Q ++ fairL G gn K vb vh W S log C)) {j : Nat} {e : Ent} (he : log[j]? = some e) {i : Nat} (hi : i < K) :
    ∃ g2 c2 g3 c3, vb = .slice (some ⟨g2, 0, none⟩) log.length c2 ∧ e.vb = .slice (some ⟨g3, 0, none⟩) K c3 ∧ w.cell? ⟨g2, j, none⟩ = some (.slice (some ⟨g3, 0, none⟩) K c3) ∧ ∀ i, i < K → w.cell? ⟨g3, i, none⟩ = some (.int .u64 (e.S i : Nat)) := by
  have hj : j < log.length := by
    rcases Nat.lt_or_ge j log.length with h' | h'
    · exact h'
    · rw [List.getElem?_eq_none h'] at he; cases he
  obtain ⟨o, h1⟩ := Made.has h (D := rowW TUs 1 vb log.length (log.map (fun e => e.vb))) (List.mem_append_right _ (by simp [fairL]))
  obtain ⟨o2, h2⟩ := Made.has h (D := rowB K e) (List.mem_append_right _ (List.mem_append_right _ (List.mem_append_left _ (List.mem_map.2 ⟨e, List.mem_of_getElem? he, rfl⟩))))
  obtain ⟨g2, c2, rfl⟩ := rowW_arr h1 (by omega)
  unfold rowB at h2
  obtain ⟨g3, c3, h3⟩ := rowW_arr h2 (by omega)
  rw [h3] at h2
  refine ⟨g2, c2, g3, c3, rfl, h3, (rowW_cell h1 (by rw [List.getElem?_map, he]; simp [h3])).1, fun i hi => (rowW_cell h2 (by rw [List.getElem?_map, List.getElem?_range hi]; rfl)).1⟩
theorem f_has (Q : List Comp) (h : Made w0 w (Q ++ fairL G gn K vb vh W S log C)) {j : Nat} {e : Ent} (he : log[j]? = some e) (hK : 0 < K) :
    ∃ g2 c2 g3 c3, vh = .slice (some ⟨g2, 0, none⟩) log.length c2 ∧ e.vh = .slice (some ⟨g3, 0, none⟩) K c3 ∧ w.cell? ⟨g2, j, none⟩ = some (.slice (some ⟨g3, 0, none⟩) K c3) ∧ ∀ (i x : Nat), e.W[i]? = some x → w.cell? ⟨g3, i, none⟩ = some (.int .i64 (x : Nat)) := by
  have hj : j < log.length := by
    rcases Nat.lt_or_ge j log.length with h' | h'
    · exact h'
    · rw [List.getElem?_eq_none h'] at he; cases he
  obtain ⟨o, h1⟩ := Made.has h (D := rowW TIs 1 vh log.length (log.map (fun e => e.vh))) (List.mem_append_right _ (by simp [fairL]))
  obtain ⟨o2, h2⟩ := Made.has h (D := rowH K e) (List.mem_append_right _ (List.mem_append_right _ (List.mem_append_right _ (List.mem_map.2 ⟨e, List.mem_of_getElem? he, rfl⟩))))
  obtain ⟨g2, c2, rfl⟩ := rowW_arr h1 (by omega)
  unfold rowH at h2
  obtain ⟨g3, c3, h3⟩ := rowW_arr h2 hK
  rw [h3] at h2
  refine ⟨g2, c2, g3, c3, rfl, h3, (rowW_cell h1 (by rw [List.getElem?_map, he]; simp [h3])).1, fun i x hx => (rowW_cell h2 (by rw [List.getElem?_map, hx]; rfl)).1⟩
theorem f_beh (Q : List Comp) {ab : Option Addr} {cb k : Nat} (h : Made w0 w (Q ++ fairL G gn K (.slice ab k cb) vh W S log C)) (_ : log.length = k) {j : Nat} {e : Ent} (he : log[j]? = some e) (hK : 0 < K) :
    ∃ g2 g3 c3, ab = some ⟨g2, 0, none⟩ ∧ w.cell? ⟨g2, j, none⟩ = some (.slice (some ⟨g3, 0, none⟩) K c3) ∧ ∀ i, i < K → w.cell? ⟨g3, i, none⟩ = some (.int .u64 (e.S i : Nat)) := by
  obtain ⟨g2, c2, g3, c3, h1, _, h3, h4⟩ := f_behind Q h he hK
  injection h1 with h5
  exact ⟨g2, g3, c3, h5, h3, h4⟩
theorem f_hs (Q : List Comp) {ah : Option Addr} {ch k : Nat} (h : Made w0 w (Q ++ fairL G gn K vb (.slice ah k ch) W S log C)) (_ : log.length = k) {j : Nat} {e : Ent} (he : log[j]? = some e) (hK : 0 < K) :
    ∃ g2 g3 c3, ah = some ⟨g2, 0, none⟩ ∧ w.cell? ⟨g2, j, none⟩ = some (.slice (some ⟨g3, 0, none⟩) K c3) ∧ ∀ (i x : Nat), e.W[i]? = some x → w.cell? ⟨g3, i, none⟩ = some (.int .i64 (x : Nat)) := by
  obtain ⟨g2, c2, g3, c3, h1, _, h3, h4⟩ := f_has Q h he hK
  injection h1 with h5
  exact ⟨g2, g3, c3, h5, h3, h4⟩
/-- A new row, of whatever. -/
theorem f_new {l : List Comp} {T : TypeId} {n : Nat} {xs : List Value} {v : Value} {base : Nat} (h : Made w0 w l) (hu : Upd Nowhere w w') (ho : w'.ownsRow base T 1 v n xs) (hb : w.heap.size ≤ base) : Made w0 w' (rowW T 1 v n xs :: l) :=
  h.more (C := rowW T 1 v n xs) (o := fun k => v.ownBlock = some k) ⟨ownsRow_base ho (Nat.zero_le _), fun _ => Iff.rfl⟩ (fun k hk => Nat.le_trans hb (ho.lt k hk).1) hu
/-- One of the rows is appended to. -/
theorem f_push {l1 l2 : List Comp} {T : TypeId} {n n' : Nat} {xs ys : List Value} {v v' : Value} {w1 : World} (h : Made w0 w (l1 ++ rowW T 1 v n xs :: l2)) (hx : Upd Nowhere w w1) (ho : w'.ownsRow 0 T 1 v' n' ys) (hu : Upd (fun k => v.ownBlock = some k) w1 w') (hn : OwnOrNew w1 v v') : Made w0 w' (l1 ++ rowW T 1 v' n' ys :: l2) := by
  obtain ⟨o, h1, _, h3⟩ := Made.foc _ _ _ h
  obtain ⟨a1, a2⟩ := rowW_push h1 hx ho hu hn
  exact h3 _ _ _ a1 a2
abbrev sv (K : Nat) (S : Nat → Nat) : List Value := (List.range K).map (fun i => .int .u64 (S i : Nat))
abbrev iv (W : List Nat) : List Value := W.map (fun x => .int .i64 (x : Nat))
theorem own_form {E : TypeId} {size base n : Nat} {w : World} {v : Value} {xs : List Value} (h : w.ownsRow base E size v n xs) : ∃ ad c, v = .slice ad n c := by
  rcases h.2 with ⟨rfl, h0⟩ | ⟨g, c, cur, rfl, _⟩
  · exact ⟨none, 0, by rw [h0]⟩
  · exact ⟨_, c, rfl⟩
theorem empty_own (w : World) (T : TypeId) : (w.alloc (.cells #[] T)).ownsRow w.heap.size T 1 (.slice (some ⟨w.heap.size, 0, none⟩) 0 0) 0 [] :=
  ⟨by simp, .inr ⟨w.heap.size, 0, #[], rfl, Nat.le_refl _, Blk.new _ _ _, Nat.le_refl _, by unfold maxLen; omega, rfl, rfl⟩⟩
theorem empty_upd {w w3 : World} {T : TypeId} (hu : Upd (fun k => (Value.slice (some ⟨w.heap.size, 0, none⟩) 0 0).ownBlock = some k) (w.alloc (.cells #[] T)) w3) : Upd Nowhere w w3 :=
  ((Upd.refl Nowhere w).alloc _).trans hu (fun q hq h => absurd hq (Nat.not_lt.2 ((empty_own w T).lt q h).1))
theorem f_srcB (h : Made w0 w (fairL G gn K vb vh W S log C)) (o : Obj) : ∀ b, (some ⟨gn, 0, none⟩ : Option Addr) = some b → ∀ j u, (sv K S)[j]? = some u → (w.alloc o).cell? (b.add j) = some u := fun b hb j u hu => by
  cases hb
  rw [add_at, Nat.zero_add]
  have hj : j < K := by
    rcases Nat.lt_or_ge j K with h' | h'
    · exact h'
    · rw [List.getElem?_eq_none (by simpa using h')] at hu; cases hu
  rw [List.getElem?_map, List.getElem?_range hj] at hu
  cases hu
  exact cell_old ((Upd.refl _ _).alloc _) (f_sent [] h hj).1
theorem f_srcH {l : List Comp} (h : Made w0 w l) (hm : intC G K W ∈ l) (o : Obj) : ∀ b, (some ⟨G, 0, none⟩ : Option Addr) = some b → ∀ j u, (iv W)[j]? = some u → (w.alloc o).cell? (b.add j) = some u := fun b hb j u hu => by
  cases hb
  rw [add_at, Nat.zero_add]
  obtain ⟨o2, h1⟩ := Made.has h hm
  exact cell_old ((Upd.refl _ _).alloc _) (rowW_cell h1 hu).1
theorem sv_one (K : Nat) (S : Nat → Nat) : ∀ u ∈ sv K S, u.oneCell' = true := fun u hu => by
  obtain ⟨i, _, rfl⟩ := List.mem_map.1 hu; rfl
theorem iv_one (W : List Nat) : ∀ u ∈ iv W, u.oneCell' = true := fun u hu => by
  obtain ⟨i, _, rfl⟩ := List.mem_map.1 hu; rfl
/-- The log grows. -/
theorem f_log {Q : List Comp} {v1 v2 vb' vh' : Value} (V : Nat) (Hd : Nat → Nat)
    (h : Made w0 w ([rowW TI64 1 v2 K (W.map (fun x => .int .i64 (x : Nat))), rowW TU64 1 v1 K ((List.range K).map (fun i => .int .u64 (S i : Nat)))] ++ (Q ++ ([intC G K W, nextC gn K S, rowW TUs 1 vb' (log.length + 1) (log.map (fun e => e.vb) ++ [v1]), rowW TIs 1 vh' (log.length + 1) (log.map (fun e => e.vh) ++ [v2]), C] ++ (log.map (rowB K) ++ log.map (rowH K)))))) :
    Made w0 w (Q ++ fairL G gn K vb' vh' W S (log ++ [⟨v1, v2, W, S, Hd, V⟩]) C) := by
  refine h.perm ?_
  unfold fairL
  rw [List.length_append, List.map_append, List.map_append, List.map_append, List.map_append]
  show ([rowH K ⟨v1, v2, W, S, Hd, V⟩, rowB K ⟨v1, v2, W, S, Hd, V⟩] ++ (Q ++ ([intC G K W, nextC gn K S, rowW TUs 1 vb' (log.length + 1) (log.map (fun e => e.vb) ++ [v1]), rowW TIs 1 vh' (log.length + 1) (log.map (fun e => e.vh) ++ [v2]), C] ++ (log.map (rowB K) ++ log.map (rowH K))))).Perm (Q ++ ([intC G K W, nextC gn K S, rowW TUs 1 vb' (log.length + 1) (log.map (fun e => e.vb) ++ [v1]), rowW TIs 1 vh' (log.length + 1) (log.map (fun e => e.vh) ++ [v2]), C] ++ (log.map (rowB K) ++ [rowB K ⟨v1, v2, W, S, Hd, V⟩] ++ (log.map (rowH K) ++ [rowH K ⟨v1, v2, W, S, Hd, V⟩]))))
  generalize rowH K ⟨v1, v2, W, S, Hd, V⟩ = a
  generalize rowB K ⟨v1, v2, W, S, Hd, V⟩ = b
  generalize [intC G K W, nextC gn K S, rowW TUs 1 vb' (log.length + 1) (log.map (fun e => e.vb) ++ [v1]), rowW TIs 1 vh' (log.length + 1) (log.map (fun e => e.vh) ++ [v2]), C] = m
  generalize log.map (rowB K) = x
  generalize log.map (rowH K) = y
  have p1 : (m ++ (x ++ [b] ++ (y ++ [a]))).Perm ([a, b] ++ (m ++ (x ++ y))) := by
    refine List.Perm.trans (l₂ := [a] ++ (m ++ (x ++ [b] ++ y))) ?_ ?_
    · rw [← List.append_assoc (x ++ [b]), ← List.append_assoc m]
      exact List.perm_append_comm
    · refine List.Perm.cons a ?_
      rw [List.append_assoc x, ← List.append_assoc m x]
      refine List.Perm.trans List.perm_middle ?_
      rw [List.append_assoc]
      exact List.Perm.refl _
  refine List.Perm.trans ?_ ((List.Perm.append_left Q p1).symm)
  generalize m ++ (x ++ y) = z
  rw [← List.append_assoc, ← List.append_assoc]
  exact List.Perm.append_right _ List.perm_append_comm
end
section
variable {sh : Sh} {s : TS} {b b' : Nat} {ws W : List Nat} {Hd : Nat → Nat}
theorem Fr.up_ (h : Fr sh ws s W Hd b) (hb : b ≤ b') : Fr sh ws s W Hd b' := ⟨h.H, h.now, h.len, h.cnt, h.zero, h.ris, h.chn, h.lo, h.hi, Nat.le_trans h.bd.1 hb, fun i hi => Nat.le_trans (h.bd.2 i hi) hb⟩
theorem Fr.q_ne (h : Fr sh ws s W Hd b) {i x : Nat} (hx : W[i]? = some x) (h0 : 0 < x) : s.q (i + 1) ≠ [] := fun e => by
  have := h.cnt i x hx
  rw [e] at this
  simp at this
  omega
theorem Fr.eok (h : Fr sh ws s W Hd b) {S : Nat → Nat} (hS : ∀ f, f < ws.length → S f ≤ 10000000) (hW : ∀ x ∈ W, x ≤ 4096) (v1 v2 : Value) : Eok ws ⟨v1, v2, W, S, Hd, s.vi 0⟩ :=
  ⟨h.len, hS, hW, fun f hf _ hx h0 => ⟨h.lo f hf (h.q_ne hx h0), h.hi f hf⟩⟩
theorem flat_push3 {room : Nat} (hf : FlatSh sh 3 ws 0) (hH : s.H = []) {i : Nat} (hi : i < ws.length) (p : Nat × Nat × Nat) : ∃ v s', push sh room s 0 ((i + 1 : Nat) : Int) p = (v, s') ∧ ((v ≠ 0 ∧ s' = s) ∨ (v = 0 ∧ 1 ≤ p.2.2 ∧ p.2.2 ≤ 65535 ∧ s' = put1 sh s i p)) := by
  rw [flat_push hf hH hi]
  split
  · exact ⟨_, _, rfl, .inl ⟨by omega, rfl⟩⟩
  · rename_i h1
    split
    · exact ⟨_, _, rfl, .inl ⟨by omega, rfl⟩⟩
    · exact ⟨_, _, rfl, .inr ⟨rfl, by omega, by omega, rfl⟩⟩
end
/-- No number is above it behind k acts. -/
def FB (k : Nat) : Nat := k * 281474976710656
theorem FB_le {k : Nat} (h : k ≤ 1000) : FB k + 281474976710656 ≤ 18446744073709551615 := by unfold FB; omega
theorem FB_succ (k : Nat) : FB (k + 1) = FB k + 281474976710656 := Nat.succ_mul k _
theorem FB_up (k : Nat) : FB k ≤ FB (k + 1) := by rw [FB_succ]; exact Nat.le_add_right _ _
/-- What stands at the loop's head. -/
def Fat (w wr : World) (sh : Sh) (L : Lay) (ws : List Nat) (K G gn k : Nat) (vb vh : Value) : Prop :=
  ∃ (W : List Nat) (S Hd : Nat → Nat) (s : TS) (log : List Ent), Fr sh ws s W Hd (FB k) ∧ log.length = k ∧ Lg ws log ∧ (∀ i, i < ws.length → S i ≤ k * 65535) ∧
    (∀ e, log.getLast? = some e → e.W = W ∧ e.S = S ∧ e.Hd = Hd ∧ e.V = s.vi 0) ∧ Made w wr (fairL G gn K vb vh W S log (treeC L sh 4096 s (k * 10000000)))
/-- What stands behind an act. -/
def Fmid (w wr : World) (sh : Sh) (L : Lay) (ws : List Nat) (K G gn k : Nat) (vb vh : Value) (D : Comp) : Prop :=
  ∃ (W : List Nat) (S Hd : Nat → Nat) (s : TS) (log : List Ent), Fr sh ws s W Hd (FB (k + 1)) ∧ log.length = k ∧ Lg ws log ∧ (∀ i, i < ws.length → S i ≤ (k + 1) * 65535) ∧
    (∀ e, log.getLast? = some e → Lk ws e.W e.S e.Hd W S Hd) ∧ Made w wr ([D] ++ fairL G gn K vb vh W S log (treeC L sh 4096 s (k * 10000000 + 10000000)))
end Go.Proofs.YtllfloapiliheaaDoor.Tree
namespace Go.Proofs.YtllfloapiliheaaDoor.Tree
open Go.RowKit Go.Proofs BigFrame
set_option maxHeartbeats 40000000
set_option maxRecDepth 1000000
theorem infoIs : (Tryd.prog.info? TIs).map (fun i => (i.zero, i.size, i.bytes)) = some (some (.slice none 0 0), 1, 24) := by kernel_rfl
theorem make_u (W : Nat) (h : W ≤ 4096) : ∃ cs : Array Value, (cs.size = W ∧ ∀ i, i < W → cs[i]? = some (.int .u64 0)) ∧ ∀ u : World, (Instr.makeSlice 33 (.int .i64 W) (.int .i64 W)).run Tryd.prog u = .ok (.slice (some ⟨u.heap.size, 0, none⟩) W W) (u.alloc (.cells cs TU64)) := by
  obtain ⟨i0, hi, hz0, hz1, hz2⟩ := info_parts infoU64
  refine ⟨madeCells #[.int .u64 0] W, ⟨by simp [madeCells], fun i hi => by simp [madeCells, hi, Nat.mod_one]⟩, fun u => ?_⟩
  have h := Go.run_make (P := Tryd.prog) u 33 TU64 i0 (.int .u64 0) Tryd.underlying33 hi hz0 .i64 .i64 W W (by omega) (by omega) (by rw [hz2]; omega) (by omega)
  rw [h, hz1]
  simp [Value.cells]
theorem make_i (W : Nat) (h : W ≤ 4096) : ∃ cs : Array Value, (cs.size = W ∧ ∀ i, i < W → cs[i]? = some (.int .i64 0)) ∧ ∀ u : World, (Instr.makeSlice 32 (.int .i64 W) (.int .i64 W)).run Tryd.prog u = .ok (.slice (some ⟨u.heap.size, 0, none⟩) W W) (u.alloc (.cells cs TI64)) := by
  obtain ⟨i0, hi, hz0, hz1, hz2⟩ := info_parts infoI64
  refine ⟨madeCells #[.int .i64 0] W, ⟨by simp [madeCells], fun i hi => by simp [madeCells, hi, Nat.mod_one]⟩, fun u => ?_⟩
  have h := Go.run_make (P := Tryd.prog) u 32 TI64 i0 (.int .i64 0) Tryd.underlying32 hi hz0 .i64 .i64 W W (by omega) (by omega) (by rw [hz2]; omega) (by omega)
  rw [h, hz1]
  simp [Value.cells]
theorem f_made {w0 w w1 : World} {G gn K : Nat} {csI csN : Array Value} {C : Comp} (h : Made w0 w [C]) (hu : Upd Nowhere w w1) (hs : Blk w1 G csI TI64) (hn : Blk w1 gn csN TU64) (hsz : csI.size = K) (hnz : csN.size = K) (hs0 : ∀ i, i < K → csI[i]? = some (.int .i64 0)) (hn0 : ∀ i, i < K → csN[i]? = some (.int .u64 0)) (hne : G ≠ gn) (hgs : w.heap.size ≤ G) (hgn : w.heap.size ≤ gn) (hK : K ≤ 1000) :
    Made w0 w1 (fairL G gn K (.slice none 0 0) (.slice none 0 0) (List.replicate K 0) (fun _ => 0) [] C) := by
  have e1 : csI.toList = (List.replicate K 0).map (fun x => Value.int .i64 ((x : Nat) : Int)) := by
    apply List.ext_getElem?
    intro j
    rcases Nat.lt_or_ge j K with h | h
    · rw [List.getElem?_map, List.getElem?_replicate, if_pos h, Array.getElem?_toList, hs0 j h]; rfl
    · rw [List.getElem?_eq_none (by simp; omega), List.getElem?_eq_none (by simpa using h)]
  have e2 : csN.toList = (List.range K).map (fun _ => Value.int .u64 ((0 : Nat) : Int)) := by
    apply List.ext_getElem?
    intro j
    rcases Nat.lt_or_ge j K with h | h
    · rw [List.getElem?_map, List.getElem?_range h, Array.getElem?_toList, hn0 j h]; rfl
    · rw [List.getElem?_eq_none (by simp; omega), List.getElem?_eq_none (by simpa using h)]
  have hmax : K ≤ maxLen := by unfold maxLen; omega
  have r1 : (intC G K (List.replicate K 0)).P w1 (fun k => k = G) := ⟨⟨by simp, .inr ⟨G, K, csI, rfl, Nat.zero_le _, hs, Nat.le_refl _, hmax, by simpa using hsz, by rw [← e1]; exact List.take_of_length_le (by simp; omega)⟩⟩, fun k => ⟨fun h => by rw [h]; rfl, fun h => (Option.some.inj h).symm⟩⟩
  have r2 : (nextC gn K (fun _ => 0)).P w1 (fun k => k = gn) := ⟨⟨by simp, .inr ⟨gn, K, csN, rfl, Nat.zero_le _, hn, Nat.le_refl _, hmax, by simpa using hnz, by rw [← e2]; exact List.take_of_length_le (by simp; omega)⟩⟩, fun k => ⟨fun h => by rw [h]; rfl, fun h => (Option.some.inj h).symm⟩⟩
  have h0 : Made w0 w [rowW TUs 1 (.slice none 0 0) 0 [], rowW TIs 1 (.slice none 0 0) 0 [], C] := rowW_start TUs 1 (rowW_start TIs 1 h)
  obtain ⟨own, h1, h2, h3⟩ := h0
  refine ⟨fun k => k = G ∨ (k = gn ∨ own k), ⟨_, _, r1, ⟨_, _, r2, h1.old hu, fun k hk h9 => ?_, fun _ => Iff.rfl⟩, fun k hk h9 => ?_, fun _ => Iff.rfl⟩, fun k hk => ?_, h3.trans hu (fun _ _ h => h)⟩
  · subst hk; have := h1.lt h9; omega
  · subst hk
    rcases h9 with h9 | h9
    · exact hne h9
    · have := h1.lt h9; omega
  · rcases hk with rfl | rfl | hk
    · exact Nat.le_trans h3.size hgs
    · exact Nat.le_trans h3.size hgn
    · exact h2 k hk
theorem lk_same (ws W : List Nat) (S Hd : Nat → Nat) : Lk ws W S Hd W S Hd := fun _ _ _ _ _ _ _ _ => ⟨Nat.le_refl _, rfl⟩
theorem lk_pop (ws W W' : List Nat) (S Hd : Nat → Nat) (i : Nat) (hi : i < ws.length) (len : Nat) : Lk ws W S Hd W' (up S i (S i + len)) (up Hd i (Hd i + ws[i] * len)) := fun f hf x y _ _ _ _ => by
  by_cases e : f = i
  · subst e
    rw [up_at, up_at, Nat.mul_add]
    omega
  · rw [up_off _ e, up_off _ e]
    exact ⟨Nat.le_refl _, rfl⟩
theorem lk_push (ws W W' : List Nat) (S Hd Hd' : Nat → Nat) (h : ∀ j x, W[j]? = some x → 0 < x → Hd' j = Hd j) : Lk ws W S Hd W' S Hd' := fun f _ x _ hx h0 _ _ => by
  rw [h f x hx h0]
  exact ⟨Nat.le_refl _, rfl⟩
theorem fair_big (ad : Option Addr) (k c : Nat) (ad2 : Option Addr) (n c2 : Nat) (w : World) (E : Env w) (h : k < 2 ∨ 5 < k ∨ 100 < n) :
    Calls Tryd.prog 3 #[.slice ad k c, .slice ad2 n c2] w fun e w' => e = .returned (.bool true) ∧ Upd Nowhere w w' := by
  have HL := Lib.hid (lives w E)
  clear E
  by_cases h1 : k < 2
  · have d1 : decide ((k : Int) < 2) = true := decide_eq_true (by omega)
    have d2 : decide (k < 2) = true := decide_eq_true h1
    clear h h1
    go_enter Tryd.func3, Tryd.ntmps3
    go_wp2_with fail
    refine (HL.out).mono ?_
    rintro e w1 ⟨rfl, u1⟩
    go_wp2_with fail
    go_ret
    exact ⟨rfl, u1⟩
  · have d1 : decide ((k : Int) < 2) = false := decide_eq_false (by omega)
    have d2 : decide (k < 2) = false := decide_eq_false h1
    by_cases h2 : 5 < k
    · have d3 : decide ((k : Int) > 5) = true := decide_eq_true (by omega)
      have d4 : decide (5 < k) = true := decide_eq_true h2
      clear h h1 h2
      go_enter Tryd.func3, Tryd.ntmps3
      go_wp2_with fail
      refine (HL.out).mono ?_
      rintro e w1 ⟨rfl, u1⟩
      go_wp2_with fail
      go_ret
      exact ⟨rfl, u1⟩
    · have d3 : decide ((k : Int) > 5) = false := decide_eq_false (by omega)
      have d4 : decide (5 < k) = false := decide_eq_false h2
      have d5 : decide ((n : Int) > 100) = true := decide_eq_true (by omega)
      have d6 : decide (100 < n) = true := decide_eq_true (by omega)
      clear h h1 h2
      go_enter Tryd.func3, Tryd.ntmps3
      go_wp2_with fail
      refine (HL.out).mono ?_
      rintro e w1 ⟨rfl, u1⟩
      go_wp2_with fail
      go_ret
      exact ⟨rfl, u1⟩
end Go.Proofs.YtllfloapiliheaaDoor.Tree
namespace Go.Proofs.YtllfloapiliheaaDoor.Tree
open Go.RowKit Go.Proofs BigFrame
set_option maxHeartbeats 40000000
set_option maxRecDepth 1000000
/-- Both wait, from m up to below j. -/
def Pos (log : List Ent) (f g m j : Nat) : Prop := ∀ (q : Nat) (e : Ent), m ≤ q → q < j → log[q]? = some e → (∃ x, e.W[f]? = some x ∧ 0 < x) ∧ ∃ x, e.W[g]? = some x ∧ 0 < x
theorem z_of {v : Value} {log : List Ent} {f g j : Nat} (h : v = .int .i64 (-1) ∨ ∃ m : Nat, v = .int .i64 m ∧ m < j ∧ Pos log f g m j) : ∃ z : Int, v = .int .i64 z ∧ (z = -1 ∨ ∃ m : Nat, z = m ∧ m < j ∧ Pos log f g m j) :=
  h.elim (fun h => ⟨-1, h, .inl rfl⟩) (fun ⟨m, h1, h2⟩ => ⟨m, h1, .inr ⟨m, rfl, h2⟩⟩)
theorem fair_walk (ad : Option Addr) (c : Nat) (ws : List Nat) (ad2 : Option Addr) (c2 : Nat) (l : List Act) (w : World) (E : Env w) (hw : Wts w ad ws) (hb : ∀ x ∈ ws, x < 4294967296) (h1 : 2 ≤ ws.length) (h5 : ws.length ≤ 5) (h100 : l.length ≤ 100) (ha : Acts w ad2 l) (hok : ∀ a ∈ l, a.Ok) :
    Calls Tryd.prog 3 #[.slice ad ws.length c, .slice ad2 l.length c2] w fun e w' => e = .returned (.bool true) ∧ Upd Nowhere w w' := by
  have hf := flat_sh 3 ws 0
  have hsh := shOf_ok (l := flatN 3 ws 0) (flatN_ok (by omega) (by omega)) (by rw [flatN_len]; omega) (by rw [flatN_len]; omega) (flatN_fit hb (by omega))
  have HFL := Lib.hid (flat_ok 3 ad c ws 0 w hw hb (by omega))
  have HN := fun u adn cn (hm : Made w u []) (hn : NodesAt u adn (flatN 3 ws 0)) => Lib.hid (m_new (room := 4096) (cp := cn) hm E hn (by rw [flatN_len]; omega) (by rw [flatN_len]; omega) (flatN_ok (by omega) (by omega)) (by omega) (by omega))
  have HL := fun u (hu : Upd Nowhere w u) => Lib.hid (lives u (E.old hu))
  obtain ⟨n, hnl⟩ : ∃ n, l.length = n := ⟨_, rfl⟩
  obtain ⟨K, hK⟩ : ∃ K, ws.length = K := ⟨_, rfl⟩
  obtain ⟨sh, hsh2⟩ : ∃ sh, shOf (flatN 3 ws 0) = sh := ⟨_, rfl⟩
  rw [hsh2] at hsh HN hf
  rw [hK] at HFL h1 h5 ⊢
  rw [hnl] at h100 ⊢
  obtain ⟨csI, hcsI, hmkI⟩ := make_i K (by omega)
  obtain ⟨csN, hcsN, hmkN⟩ := make_u K (by omega)
  have HCI := Lib.hid hcsI
  have HCN := Lib.hid hcsN
  have HE := Lib.hid E
  have HA := Lib.hid ha
  have HO := Lib.hid hok
  have HNL := Lib.hid hnl
  have HKL := Lib.hid hK
  have HS := Lib.hid hsh
  have HF := Lib.hid hf
  have HW := Lib.hid hw
  have HB := Lib.hid hb
  clear E ha hok hnl hK hsh hf hw hb hsh2 hcsI hcsN
  have d1 : decide ((K : Int) < 2) = false := decide_eq_false (by omega)
  have d2 : decide (K < 2) = false := decide_eq_false (by omega)
  have d3 : decide ((K : Int) > 5) = false := decide_eq_false (by omega)
  have d4 : decide (5 < K) = false := decide_eq_false (by omega)
  have d5 : decide ((n : Int) > 100) = false := decide_eq_false (by omega)
  have d6 : decide (100 < n) = false := decide_eq_false (by omega)
  go_enter Tryd.func3, Tryd.ntmps3
  go_wp2_with fail
  refine (HFL.out).mono ?_
  rintro e w1 ⟨⟨adn, cn, rfl, hnd⟩, u1⟩
  have HN1 := Lib.hid (HN w1 adn cn ((Made.start w).old u1) hnd).out
  clear HFL HN hnd u1
  go_wp2_with fail
  refine (HN1.out).mono ?_
  rintro e w2 ⟨L, rfl, h2⟩
  have H2 := Lib.hid h2
  clear HN1 d1 d2 d3 d4 d5 d6 h2
  go_upto_region 7 with fail
  go_cut [8, 9] (fun sv nv wc => ∃ G gn : Nat, sv = .slice (some ⟨G, 0, none⟩) K K ∧ nv = .slice (some ⟨gn, 0, none⟩) K K ∧ Fat w wc sh L ws K G gn 0 (.slice none 0 0) (.slice none 0 0))
  case first =>
    have hpac : Fr sh ws s0 (List.replicate K 0) (fun _ => 0) (FB 0) := ⟨rfl, rfl, by rw [List.length_replicate, HKL.out], fun i x hx => by
      have := List.eq_of_mem_replicate (List.mem_of_getElem? hx); rw [this]; rfl, fun i hi a ha => (by cases ha), List.Pairwise.nil, fun i hi => ⟨rfl, rfl⟩, fun i hi hne => absurd rfl hne, fun i hi => Nat.zero_le _, ⟨Nat.zero_le _, fun i hi => Nat.zero_le _⟩⟩
    have hat : ∀ (w3 : World) (G gn : Nat), Upd Nowhere w2 w3 → Blk w3 G csI TI64 → Blk w3 gn csN TU64 → G ≠ gn → w2.heap.size ≤ G → w2.heap.size ≤ gn → Fat w w3 sh L ws K G gn 0 (.slice none 0 0) (.slice none 0 0) := fun w3 G gn hu hs hn hne h1 h2 =>
      ⟨_, _, _, s0, [], hpac, rfl, Lg.nil _, fun i hi => Nat.zero_le _, fun e he => (by cases he), f_made H2.out hu hs hn HCI.out.1 HCN.out.1 HCI.out.2 HCN.out.2 hne h1 h2 (by omega)⟩
    have HAT := Lib.hid hat
    clear hat hpac
    go_region
    all_goals
      go_wp2_with fail
      go_meet
      first
        | exact ⟨_, _, rfl, rfl, HAT.out _ _ _ (((Upd.refl _ _).alloc _).alloc _).drew ((Blk.new _ _ _).alloc _).drew (Blk.new2 _ _ _ _).drew (by omega) (by omega) (by omega)⟩
        | exact ⟨_, _, rfl, rfl, HAT.out _ _ _ (((Upd.refl _ _).alloc _).alloc _).drew (Blk.new2 _ _ _ _).drew ((Blk.new _ _ _).alloc _).drew (by omega) (by omega) (by omega)⟩
  case rest =>
    as_aux_lemma =>
      obtain ⟨G, gn, rfl, rfl, hat⟩ := hcut
      obtain ⟨wC, rfl⟩ : ∃ x, x = wc := ⟨_, rfl⟩
      have HAT := Lib.hid hat
      clear hat H2 HCI HCN hmkI hmkN
      go_wp2_with fail
      go_loopw [10, 11, 60] (fun bv hv i wr => ∃ (k : Nat) (ab : Option Addr) (cb : Nat) (ah : Option Addr) (ch : Nat), i = .int .i64 k ∧ bv = .slice ab k cb ∧ hv = .slice ah k ch ∧ k ≤ n ∧ Fat w wr sh L ws K G gn k (.slice ab k cb) (.slice ah k ch)) (fun _ _ i _ => n - (intOf i).toNat)
      case atStart => exact ⟨0, none, 0, none, 0, rfl, rfl, rfl, Nat.zero_le _, HAT.out⟩
      case round =>
        obtain ⟨k, ab, cb, ah, ch, rfl, rfl, rfl, hk, W, S, Hd, s, log, hfr, hlog, hlg, hSb, hlast, hM⟩ := hrel
        obtain ⟨wB, rfl⟩ : ∃ x, x = wr := ⟨_, rfl⟩
        clear HAT
        by_cases hlt : k < n
        · as_aux_lemma =>
            have hI : (k : Int) < n := by omega
            obtain ⟨x, hx⟩ : ∃ x, l[k]? = some x := ⟨l[k]'(by rw [HNL.out]; exact hlt), by simp⟩
            obtain ⟨o1, o2, o3, o4⟩ := HO.out x (List.mem_of_getElem? hx)
            obtain ⟨ga, oa, rfl, ⟨r0, r1, r2, r3, r4, r5⟩, ⟨r1', r2', r3', r4', r5'⟩⟩ := HA.out.get hM.upd hx
            obtain ⟨_, _, hgs⟩ := m_tree _ _ (f_tree [] hM)
            have hM1 := m_blk hM (actA x) TAct
            obtain ⟨p, t, nd, fl, id, len⟩ := x
            simp only at r0 r1 r2 r3 r4 r5 r1' r2' r3' r4' r5' o1 o2 o3 o4
            have HGS := Lib.hid hgs
            have HFR := Lib.hid hfr
            have HLOG := Lib.hid hlog
            have HLG := Lib.hid hlg
            have HSB := Lib.hid hSb
            have HLA := Lib.hid hlast
            obtain ⟨XB, hXB⟩ : ∃ XB, wB.heap.size = XB := ⟨_, rfl⟩
            rw [hXB] at hM1
            have HM1 := Lib.hid hM1
            have HXB := Lib.hid hXB
            have hkk : k * 10000000 + 20000000 < 18446744073709551615 := by omega
            have hkk2 : (k + 1) * 10000000 = k * 10000000 + 10000000 := Nat.succ_mul k _
            have hkb3 : (k + 1) * 65535 = k * 65535 + 65535 := Nat.succ_mul k _
            clear hM hM1 hgs hx hXB hfr hlog hlg hSb hlast
            go_upto_region 13 with fail
            have hXB := HXB.out
            try simp only [hXB]
            clear hXB
            generalize wB.alloc (.cells #[.bool p, .int .u64 t, .int .i64 nd, .int .u32 fl, .int .u32 id, .int .u64 len] TAct) = w4 at *
            have hc0 : w4.cell? ⟨XB, 0, none⟩ = some (.bool p) := by
              obtain ⟨o, h1⟩ := Made.has HM1.out (D := blkC XB _ TAct) (List.mem_cons_self ..)
              exact h1.1.cellAt rfl
            obtain ⟨x1, x2, x3, x4, x5⟩ := x_cells HM1.out
            simp only at x1 x2 x3 x4 x5
            clear r0 r1 r2 r3 r4 r5 r1' r2' r3' r4' r5'
            go_upto_if 65 with fail
            go_cut [] (fun wc => Fmid w wc sh L ws K G gn k (.slice ab k cb) (.slice ah k ch) (blkC XB (actA { pop := p, later := t, node := nd, fl := fl, id := id, len := len }) TAct))
            case first =>
              have hsame : ∀ wx, Made w wx ([blkC XB (actA { pop := p, later := t, node := nd, fl := fl, id := id, len := len }) TAct] ++ fairL G gn K (.slice ab k cb) (.slice ah k ch) W S log (treeC L sh 4096 s (k * 10000000 + 10000000))) → Fmid w wx sh L ws K G gn k (.slice ab k cb) (.slice ah k ch) (blkC XB (actA { pop := p, later := t, node := nd, fl := fl, id := id, len := len }) TAct) := fun wx h => ⟨W, S, Hd, s, log, HFR.out.up_ (FB_up k), HLOG.out, HLG.out, fun i hi => by have := HSB.out i hi; omega, fun e he => by obtain ⟨e1, e2, e3, _⟩ := HLA.out e he; rw [e1, e2, e3]; exact lk_same _ _ _ _, h⟩
              have HSAME := Lib.hid hsame
              have hpl := f_tree [blkC XB (actA { pop := p, later := t, node := nd, fl := fl, id := id, len := len }) TAct] HM1.out
              clear hsame
              cases p with
              | true =>
                as_aux_lemma =>
                  rcases HFR.out.pop HS.out HF.out (by rw [HKL.out]; omega) HGS.out with ⟨v, hv0, hv⟩ | ⟨i, id', len', y, s', hi, hv, hWi, hlen, hfr2⟩
                  · have q0 : ((v : Int) == 0) = false := by simp; omega
                    go_wp2_with fail
                    refine (m_pop _ _ hpl HE.out HS.out (by omega) hkk (by omega) hv).mono ?_
                    rintro e w5 ⟨rfl, h5⟩
                    have H5 := Lib.hid ((f_tree' [blkC XB _ TAct] h5).old ((Upd.refl Nowhere w5).alloc (.cells #[.int .u32 0, .int .u32 0, .int .u64 0] TPk)))
                    clear h5 hc0 x1 x2 x3 x4 x5 HM1 hv hv0 hpl
                    go_wp2_with fail
                    go_meet
                    exact HSAME.out _ H5.out
                  · have hiK : i < K := by rw [← HKL.out]; exact hi
                    go_wp2_with fail
                    refine (m_pop _ _ hpl HE.out HS.out (by omega) hkk (by omega) hv).mono ?_
                    rintro e w5 ⟨rfl, h5⟩
                    have h6 := m_blk (f_tree' [blkC XB _ TAct] h5) #[.int .u32 i, .int .u32 id', .int .u64 len'] TPk
                    clear h5 hc0 x1 x2 x3 x4 x5 HM1 hv hpl
                    go_upto_region 16 with fail
                    generalize w5.alloc (.cells #[.int .u32 i, .int .u32 id', .int .u64 len'] TPk) = w6 at *
                    generalize w5.heap.size = PB at *
                    obtain ⟨_, hq⟩ := Made.has h6 (D := blkC PB #[.int .u32 i, .int .u32 id', .int .u64 len'] TPk) (List.mem_cons_self ..)
                    obtain ⟨c0, c1, c2, -⟩ := cells3 hq.1
                    have H6 := Lib.hid h6
                    obtain ⟨Y, hY⟩ : ∃ Y, y + 1 = Y := ⟨_, rfl⟩
                    rw [hY] at hWi
                    have hYi : (Y : Int) - 1 = (y : Int) := by omega
                    obtain ⟨z0, z1⟩ := f_int [blkC PB #[.int .u32 i, .int .u32 id', .int .u64 len'] TPk, blkC XB (actA { pop := true, later := t, node := nd, fl := fl, id := id, len := len }) TAct] h6 hWi
                    have HWI := Lib.hid hWi
                    have HFR2 := Lib.hid hfr2
                    have hY4 : Y ≤ 4096 := by
                      have h9 := HGS.out.qlen HS.out (v := i + 1) (by rw [HF.out.n]; omega)
                      rw [HFR.out.cnt i _ hWi] at h9
                      exact h9
                    have g1 : decide ((i : Int) ≥ (K : Int)) = false := decide_eq_false (by omega)
                    have g2 : decide (K ≤ i) = false := decide_eq_false (by omega)
                    have hiKI : (i : Int) < (K : Int) := by omega
                    have e1 : IntKind.i64.wrap (i : Int) = (i : Int) := by rw [IntKind.wrap_i64]; omega
                    have HI := Lib.hid hi
                    have HYY := Lib.hid hY
                    clear h6 hq hfr2 hWi hY
                    go_upto_region 20 with fail
                    have h7 := f_iset [blkC PB #[.int .u32 i, .int .u32 id', .int .u64 len'] TPk, blkC XB (actA { pop := true, later := t, node := nd, fl := fl, id := id, len := len }) TAct] H6.out i y
                    generalize w6.setCell ⟨G, i, none⟩ (.int .i64 (y : Nat)) = w7 at *
                    obtain ⟨_, hq⟩ := Made.has h7 (D := blkC PB #[.int .u32 i, .int .u32 id', .int .u64 len'] TPk) (List.mem_cons_self ..)
                    obtain ⟨c0', c1', c2', -⟩ := cells3 hq.1
                    obtain ⟨s0', s1'⟩ := f_sent [blkC PB #[.int .u32 i, .int .u32 id', .int .u64 len'] TPk, blkC XB (actA { pop := true, later := t, node := nd, fl := fl, id := id, len := len }) TAct] h7 hiK
                    have hSi := HSB.out i HI.out
                    obtain ⟨a, haS⟩ : ∃ a, S i = a := ⟨_, rfl⟩
                    rw [haS] at s0' hSi
                    obtain ⟨b, hbS⟩ : ∃ b, a + len' = b := ⟨_, rfl⟩
                    have hb1 : (a : Int) + (len' : Int) = (b : Int) := by omega
                    have hb2 : b ≤ 18446744073709551615 := by omega
                    have H7 := Lib.hid h7
                    have HAS := Lib.hid haS
                    have HBS := Lib.hid hbS
                    clear h7 hq z0 z1 c0 c1 c2 haS hbS
                    refine wp_region_tail 8 (by kernel_rfl) (by kernel_rfl) ?_
                    simp only [List.take_succ_cons, List.take_zero, List.drop_succ_cons, List.drop_zero]
                    repeat (go_big_quiet_step (fail))
                    refine wpQuiet_nil ?_
                    rintro _ ⟨nq, rfl⟩
                    go_wp2
                    refine Stage.out ?_
                    have h8 := (f_sset [blkC PB #[.int .u32 i, .int .u32 id', .int .u64 len'] TPk, blkC XB (actA { pop := true, later := t, node := nd, fl := fl, id := id, len := len }) TAct] (H7.out.old ((Upd.refl Nowhere w7).drewN nq)) i b).drop
                    have H8 := Lib.hid h8
                    clear h8
                    go_wp2_with fail
                    go_meet
                    exact ⟨W.set i y, up S i b, _, s', log, HFR2.out.up_ (FB_up k), HLOG.out, HLG.out, fun j hj => by
                      by_cases e : j = i
                      · subst e; rw [up_at]; omega
                      · rw [up_off _ e]; have := HSB.out j hj; omega, fun e he => by
                      obtain ⟨e1, e2, e3, _⟩ := HLA.out e he
                      rw [e1, e2, e3, ← HBS.out, ← HAS.out]
                      exact lk_pop ws W _ S Hd i HI.out len', H8.out⟩
              | false =>
                as_aux_lemma =>
                  obtain ⟨U, hU⟩ : ∃ U : Nat, IntKind.u64.wrap nd = (U : Int) := ⟨(IntKind.u64.wrap nd).toNat, by rw [IntKind.wrap_u64]; omega⟩
                  obtain ⟨i, hi⟩ : ∃ i, U % K = i := ⟨_, rfl⟩
                  have hiK : i < K := by rw [← hi]; exact Nat.mod_lt _ (by omega)
                  have e1 : IntKind.u64.wrap (K : Int) = (K : Int) := by rw [IntKind.wrap_u64]; omega
                  have e2 : (U : Int).tmod (K : Int) = (i : Int) := by rw [Int.tmod_eq_emod_of_nonneg (by omega)]; omega
                  have e2' : (U : Int) % (K : Int) = (i : Int) := by omega
                  have hK0 : ¬ (K : Int) = 0 := by omega
                  have hK1 : ¬ K = 0 := by omega
                  clear hi
                  obtain ⟨i1, hi1⟩ : ∃ i1, i + 1 = i1 := ⟨_, rfl⟩
                  have e3 : IntKind.u32.wrap (i : Int) = (i : Int) := by rw [IntKind.wrap_u32]; omega
                  have e4 : (i : Int) + 1 = (i1 : Int) := by omega
                  have hi2 : i < ws.length := by rw [HKL.out]; exact hiK
                  obtain ⟨v, s', hv, hor⟩ := flat_push3 (room := 4096) HF.out HFR.out.H hi2 (i, 0, len)
                  rw [hi1] at hv
                  have HOR := Lib.hid hor
                  clear hor hi1
                  go_wp2_with fail
                  refine (m_push _ _ hpl HE.out HS.out (by omega) hkk (by omega) i1 i 0 len (by omega) (by omega) o4 hv).mono ?_
                  rintro e w5 ⟨rfl, h5⟩
                  have H5 := Lib.hid (f_tree' [blkC XB _ TAct] h5)
                  clear h5 hc0 x1 x2 x3 x4 x5 HM1 hpl
                  by_cases hv0 : v = 0
                  · have q0 : ((v : Int) == 0) = true := by simp; omega
                    obtain ⟨hl1, hl2, hs'⟩ : 1 ≤ len ∧ len ≤ 65535 ∧ s' = put1 sh s i (i, 0, len) := HOR.out.elim (fun h => absurd hv0 h.1) (fun h => h.2)
                    subst hs'
                    obtain ⟨y, hy⟩ : ∃ y, W[i]? = some y := ⟨W[i]'(by rw [HFR.out.len]; exact hi2), List.getElem?_eq_getElem _⟩
                    have hy4 : y ≤ 4096 := by
                      have h9 := HGS.out.qlen HS.out (v := i + 1) (by rw [HF.out.n]; omega)
                      rw [HFR.out.cnt i y hy] at h9
                      exact h9
                    obtain ⟨Hd', hp1, hp2, hp3⟩ := HFR.out.push HF.out HB.out hi2 hy 0 len hl2 (FB_le (by omega))
                    obtain ⟨y1, hy1⟩ : ∃ y1, y + 1 = y1 := ⟨_, rfl⟩
                    rw [hy1] at hp1
                    have e5 : (y : Int) + 1 = (y1 : Int) := by omega
                    have hy5 : y1 ≤ 4097 := by omega
                    have HP1 := Lib.hid hp1
                    have HP2 := Lib.hid hp2
                    obtain ⟨z0, z1⟩ := f_int [blkC XB (actA { pop := false, later := t, node := nd, fl := fl, id := id, len := len }) TAct] H5.out hy
                    have H6 := Lib.hid (f_iset [blkC XB (actA { pop := false, later := t, node := nd, fl := fl, id := id, len := len }) TAct] H5.out i y1)
                    have hiK2 : (i : Int) < (K : Int) := by omega
                    clear hp1 hp2 hp3 hy hy1 hv0 HOR
                    go_wp2_with fail
                    go_meet
                    exact ⟨_, S, Hd', _, log, by rw [FB_succ]; exact HP1.out, HLOG.out, HLG.out, fun j hj => by have := HSB.out j hj; omega, fun e he => by
                      obtain ⟨e1, e2, e3, _⟩ := HLA.out e he
                      rw [e1, e2, e3]
                      exact lk_push ws W _ S Hd Hd' (fun j x hx h0 => HP2.out j (HFR.out.q_ne hx h0)), H6.out⟩
                  · have q0 : ((v : Int) == 0) = false := by simp; omega
                    have hs' : s' = s := HOR.out.elim (fun h => h.2) (fun h => absurd h.1 hv0)
                    subst hs'
                    clear HOR hv0
                    go_wp2_with fail
                    go_meet
                    exact HSAME.out _ H5.out
            case rest =>
              as_aux_lemma =>
                obtain ⟨W', S', Hd', s', log', hfr', hlog', hlg', hSb', hlast', hMd⟩ := hcut
                obtain ⟨wX, rfl⟩ : ∃ x, x = wc := ⟨_, rfl⟩
                have HX := Lib.hid hMd.drop
                have HFR' := Lib.hid hfr'
                have HLOG' := Lib.hid hlog'
                have HLG' := Lib.hid hlg'
                have HSB' := Lib.hid hSb'
                have HLA' := Lib.hid hlast'
                clear hfr' hlog' hlg' hSb' hlast' hMd HGS HFR HLOG HLG HSB HLA HM1 x1 x2 x3 x4 x5 hc0
                have hkn : k ≤ 100 := by omega
                obtain ⟨iU, ui, uz0, uz1, uz2⟩ := info_parts infoU64
                obtain ⟨iS, si, sz0, sz1, sz2⟩ := info_parts infoUs
                obtain ⟨iI, ii, iz0, iz1, iz2⟩ := info_parts infoI64
                obtain ⟨iT, ti, tz0, tz1, tz2⟩ := info_parts infoIs
                have hWl : W'.length = K := by rw [HFR'.out.len, HKL.out]
                have HWL := Lib.hid hWl
                clear hWl
                go_wp2_with (at_builtin; first
                  | (refine wpList_app rfl _ _ 33 rfl wX.heap.size TU64 iU (.int .u64 0) 1 8 Tryd.underlying33 ui uz0 uz1 uz2 rfl (by decide) (by decide) (.slice (some ⟨wX.heap.size, 0, none⟩) 0 0) 0 [] rfl (empty_own wX TU64) (some ⟨gn, 0, none⟩) K K (sv K S') rfl (fun h => by cases h) (by simp) (f_srcB HX.out _) (sv_one K S') (by omega) (by simp) ?_; intro v3 w3 ho3 hu3 _; rw [Nat.zero_add, List.nil_append] at ho3; obtain ⟨a3, c3, rfl⟩ := own_form ho3; have h3 := Lib.hid (f_new HX.out (empty_upd hu3) ho3 (Nat.le_refl _)); clear ho3 hu3)
                  | (refine wpList_push rfl _ _ 34 rfl 0 TUs iS (.slice none 0 0) 1 24 Tryd.underlying34 si sz0 sz1 sz2 rfl (by decide) (by decide) (.slice ab k cb) k (log'.map (fun e => e.vb)) rfl (by have h9 := f_outB [_] h3.out; rw [HLOG'.out] at h9; exact ownsRow_upd h9 ((Upd.refl Nowhere w3).alloc _) (fun _ _ h => h)) w3.heap.size 1 [.slice a3 K c3] rfl rfl (new_cells w3 #[.slice a3 K c3] _) (by simp [Value.oneCell']) (by omega) (Nat.zero_le _) ?_; intro v4 w4 ho4 hu4 hn4; obtain ⟨a4, c4, rfl⟩ := own_form ho4; have h4 := Lib.hid (f_push (l1 := [rowW TU64 1 (.slice a3 K c3) K (sv K S'), intC G K W', nextC gn K S']) (l2 := [rowW TIs 1 (.slice ah k ch) log'.length (log'.map (fun e => e.vh)), treeC L sh 4096 s' (k * 10000000 + 10000000)] ++ (log'.map (rowB K) ++ log'.map (rowH K))) h3.out ((Upd.refl Nowhere w3).alloc _) ho4 hu4 hn4); clear ho4 hu4 hn4)
                  | (refine wpList_app rfl _ _ 32 rfl w4.heap.size TI64 iI (.int .i64 0) 1 8 Tryd.underlying32 ii iz0 iz1 iz2 rfl (by decide) (by decide) (.slice (some ⟨w4.heap.size, 0, none⟩) 0 0) 0 [] rfl (empty_own w4 TI64) (some ⟨G, 0, none⟩) K K (iv W') rfl (fun h => by cases h) (by simp [HWL.out]) (f_srcH (G := G) (K := K) h4.out (by simp) _) (iv_one W') (by omega) (by simp) ?_; intro v5 w5 ho5 hu5 _; rw [Nat.zero_add, List.nil_append] at ho5; obtain ⟨a5, c5, rfl⟩ := own_form ho5; have h5 := Lib.hid (f_new h4.out (empty_upd hu5) ho5 (Nat.le_refl _)); clear ho5 hu5)
                  | (refine wpList_push rfl _ _ 35 rfl 0 TIs iT (.slice none 0 0) 1 24 Tryd.underlying35 ti tz0 tz1 tz2 rfl (by decide) (by decide) (.slice ah k ch) k (log'.map (fun e => e.vh)) rfl (by obtain ⟨_, h9⟩ := Made.has (D := rowW TIs 1 (.slice ah k ch) log'.length (log'.map (fun e => e.vh))) h5.out (by simp); have h8 := h9.1; rw [HLOG'.out] at h8; exact ownsRow_upd h8 ((Upd.refl Nowhere w5).alloc _) (fun _ _ h => h)) w5.heap.size 1 [.slice a5 K c5] rfl rfl (new_cells w5 #[.slice a5 K c5] _) (by simp [Value.oneCell']) (by omega) (Nat.zero_le _) ?_; intro v6 w6 ho6 hu6 hn6; obtain ⟨a6, c6, rfl⟩ := own_form ho6; have h6 := Lib.hid (f_push (l1 := [rowW TI64 1 (.slice a5 K c5) K (iv W'), rowW TU64 1 (.slice a3 K c3) K (sv K S'), intC G K W', nextC gn K S', rowW TUs 1 (.slice a4 (k + 1) c4) (k + 1) (log'.map (fun e => e.vb) ++ [.slice a3 K c3])]) (l2 := [treeC L sh 4096 s' (k * 10000000 + 10000000)] ++ (log'.map (rowB K) ++ log'.map (rowH K))) h5.out ((Upd.refl Nowhere w5).alloc _) ho6 hu6 hn6); clear ho6 hu6 hn6))
                have h7 := Lib.hid (f_log (w0 := w) (w := w6) (G := G) (gn := gn) (K := K) (W := W') (S := S') (log := log') (C := treeC L sh 4096 s' (k * 10000000 + 10000000)) (Q := []) (v1 := .slice a3 K c3) (v2 := .slice a5 K c5) (vb' := .slice a4 (k + 1) c4) (vh' := .slice a6 (k + 1) c6) (s'.vi 0) Hd' (by rw [HLOG'.out]; exact h6.out))
                have hW4 : ∀ x ∈ W', x ≤ 4096 := fun x hx => by
                  obtain ⟨_, _, hgs⟩ := m_tree _ _ (f_tree [] HX.out)
                  obtain ⟨i, hi⟩ := List.getElem?_of_mem hx
                  have hil : i < W'.length := by
                    rcases Nat.lt_or_ge i W'.length with h' | h'
                    · exact h'
                    · rw [List.getElem?_eq_none h'] at hi; cases hi
                  have h9 := hgs.qlen HS.out (v := i + 1) (by rw [HF.out.n]; rw [HFR'.out.len] at hil; omega)
                  rw [HFR'.out.cnt i x hi] at h9
                  exact h9
                have h8 := Lib.hid (HLG'.out.snoc (HFR'.out.eok (S := S') (fun f hf => by have := HSB'.out f hf; omega) hW4 (.slice a3 K c3) (.slice a5 K c5)) (fun e he => HLA'.out e he))
                clear hW4 h3 h4 h5 h6 HX ui uz0 uz1 uz2 si sz0 sz1 sz2 ii iz0 iz1 iz2 ti tz0 tz1 tz2
                go_wp2_with fail
                go_roundw
                case rel => exact ⟨k + 1, a4, c4, a6, c6, by first | rfl | go_num, rfl, rfl, by omega, W', S', Hd', s', _, HFR'.out, by rw [List.length_append, HLOG'.out]; rfl, h8.out, HSB'.out, fun e he => by
                  rw [List.getLast?_append] at he
                  cases he
                  exact ⟨rfl, rfl, rfl, rfl⟩, by rw [hkk2]; exact h7.out⟩
                case measure => simp [intOf]; omega
        · obtain rfl : k = n := by omega
          have hI : ¬ (k : Int) < k := by omega
          have HM := Lib.hid hM
          have HLOG := Lib.hid hlog
          have HLG := Lib.hid hlg
          clear hM hlog hlg hfr hSb hlast hlt hk
          as_aux_lemma =>
            go_wp2_with fail
            go_loopw [131] (fun i wr => ∃ f : Nat, i = .int .i64 f ∧ f ≤ K ∧ Made w wr (fairL G gn K (.slice ab k cb) (.slice ah k ch) W S log (treeC L sh 4096 s (k * 10000000)))) (fun i _ => K - (intOf i).toNat)
            case atStart => exact ⟨0, rfl, Nat.zero_le _, HM.out⟩
            case round =>
              obtain ⟨f, rfl, hf, hM2⟩ := hrel
              obtain ⟨wF, rfl⟩ : ∃ x, x = wr := ⟨_, rfl⟩
              have HM2 := Lib.hid hM2
              clear hM2 HM
              by_cases hfl : f < K
              · have hIf : (f : Int) < K := by omega
                go_wp2_with fail
                go_loopw [135] (fun i wr => ∃ g : Nat, i = .int .i64 g ∧ g ≤ f ∧ Made w wr (fairL G gn K (.slice ab k cb) (.slice ah k ch) W S log (treeC L sh 4096 s (k * 10000000)))) (fun i _ => f - (intOf i).toNat)
                case atStart => exact ⟨0, rfl, Nat.zero_le _, HM2.out⟩
                case round =>
                  obtain ⟨g, rfl, hg, hM3⟩ := hrel
                  obtain ⟨wG, rfl⟩ : ∃ x, x = wr := ⟨_, rfl⟩
                  have HM3 := Lib.hid hM3
                  clear hM3 HM2
                  by_cases hgl : g < f
                  · have hIg : (g : Int) < f := by omega
                    go_wp2_with fail
                    go_loopw [20, 140] (fun fv i wr => ∃ j : Nat, i = .int .i64 j ∧ j ≤ k ∧ (fv = .int .i64 (-1) ∨ ∃ m : Nat, fv = .int .i64 m ∧ m < j ∧ Pos log f g m j) ∧ Made w wr (fairL G gn K (.slice ab k cb) (.slice ah k ch) W S log (treeC L sh 4096 s (k * 10000000)))) (fun _ i _ => k - (intOf i).toNat)
                    case atStart => exact ⟨0, rfl, Nat.zero_le _, .inl rfl, HM3.out⟩
                    case round =>
                      obtain ⟨j, rfl, hj, hfv, hM4⟩ := hrel
                      obtain ⟨wJ, rfl⟩ : ∃ x, x = wr := ⟨_, rfl⟩
                      have HM4 := Lib.hid hM4
                      have HFV := Lib.hid hfv
                      clear hM4 hfv HM3
                      by_cases hjl : j < k
                      · have hIj : (j : Int) < k := by omega
                        obtain ⟨e, he⟩ : ∃ e, log[j]? = some e := ⟨log[j]'(by rw [HLOG.out]; exact hjl), List.getElem?_eq_getElem _⟩
                        have hwl : e.W.length = K := by rw [(HLG.out.each e (List.mem_of_getElem? he)).len, HKL.out]
                        obtain ⟨a, ha⟩ : ∃ a, e.W[f]? = some a := ⟨e.W[f]'(by rw [hwl]; exact hfl), List.getElem?_eq_getElem _⟩
                        obtain ⟨b, hb⟩ : ∃ b, e.W[g]? = some b := ⟨e.W[g]'(by rw [hwl]; omega), List.getElem?_eq_getElem _⟩
                        have ha4 := (HLG.out.each e (List.mem_of_getElem? he)).wb a (List.mem_of_getElem? ha)
                        have hb4 := (HLG.out.each e (List.mem_of_getElem? he)).wb b (List.mem_of_getElem? hb)
                        obtain ⟨g2, g3, c3, rfl, r0, r1⟩ := f_hs [] HM4.out HLOG.out he (by omega)
                        have ra := r1 f a ha
                        have rb := r1 g b hb
                        have hIgK : (g : Int) < K := by omega
                        have HEE := Lib.hid he
                        have HAA := Lib.hid ha
                        have HBB := Lib.hid hb
                        clear he ha hb r1 hwl
                        by_cases ha0 : a = 0
                        · have t1 : decide ((a : Int) ≤ 0) = true := decide_eq_true (by omega)
                          have t2 : decide (a ≤ 0) = true := decide_eq_true (by omega)
                          have t3 : decide (a = 0) = true := decide_eq_true (by omega)
                          clear ha0
                          go_wp2_with fail
                          go_roundw
                          case rel => exact ⟨j + 1, by first | rfl | go_num, by omega, .inl rfl, HM4.out⟩
                          case measure => simp [intOf]; omega
                        · have t1 : decide ((a : Int) ≤ 0) = false := decide_eq_false (by omega)
                          have t2 : decide (a ≤ 0) = false := decide_eq_false (by omega)
                          have t3 : decide (a = 0) = false := decide_eq_false (by omega)
                          by_cases hb0 : b = 0
                          · have t4 : decide ((b : Int) ≤ 0) = true := decide_eq_true (by omega)
                            have t5 : decide (b ≤ 0) = true := decide_eq_true (by omega)
                            have t6 : decide (b = 0) = true := decide_eq_true (by omega)
                            clear ha0 hb0
                            go_wp2_with fail
                            go_roundw
                            case rel => exact ⟨j + 1, by first | rfl | go_num, by omega, .inl rfl, HM4.out⟩
                            case measure => simp [intOf]; omega
                          · have t4 : decide ((b : Int) ≤ 0) = false := decide_eq_false (by omega)
                            have t5 : decide (b ≤ 0) = false := decide_eq_false (by omega)
                            have t6 : decide (b = 0) = false := decide_eq_false (by omega)
                            have hpos : ∀ e', log[j]? = some e' → (∃ x, e'.W[f]? = some x ∧ 0 < x) ∧ ∃ x, e'.W[g]? = some x ∧ 0 < x := fun e' he' => by
                              rw [HEE.out] at he'
                              obtain rfl := Option.some.inj he'
                              exact ⟨⟨a, HAA.out, by omega⟩, ⟨b, HBB.out, by omega⟩⟩
                            have HPOS := Lib.hid hpos
                            clear ha0 hb0 hpos
                            obtain ⟨z, rfl, hz⟩ := z_of HFV.out
                            have HZ := Lib.hid hz
                            clear hz HFV
                            go_upto_if 162 with fail
                            go_cut [20] (fun fv wc => ∃ m : Nat, fv = .int .i64 m ∧ m ≤ j ∧ Pos log f g m (j + 1) ∧ Made w wc (fairL G gn K (.slice ab k cb) (.slice (some ⟨g2, 0, none⟩) k ch) W S log (treeC L sh 4096 s (k * 10000000))))
                            case first =>
                              rcases HZ.out with rfl | ⟨m, rfl, hm, hp⟩
                              · go_wp2_with fail
                                go_meet
                                exact ⟨j, rfl, Nat.le_refl _, fun q e' h1 h2 h3 => by
                                  obtain rfl : q = j := by omega
                                  exact HPOS.out e' h3, HM4.out⟩
                              · have t7 : decide ((m : Int) < 0) = false := decide_eq_false (by omega)
                                have HP := Lib.hid hp
                                clear hp
                                go_wp2_with fail
                                go_meet
                                exact ⟨m, rfl, by omega, fun q e' h1 h2 h3 => by
                                  by_cases hq : q = j
                                  · subst hq; exact HPOS.out e' h3
                                  · exact HP.out q e' h1 (by omega) h3, HM4.out⟩
                            case rest =>
                              obtain ⟨m, rfl, hm, hp, hM5⟩ := hcut
                              have HP := Lib.hid hp
                              have HM5 := Lib.hid hM5
                              obtain ⟨wK, rfl⟩ : ∃ x, x = wc := ⟨_, rfl⟩
                              clear hp hM5 r0 ra rb t1 t2 t3 t4 t5 t6 HZ
                              go_wp2_with fail
                              go_loopw [22] (fun i wr => ∃ q : Nat, i = .int .i64 q ∧ m ≤ q ∧ q ≤ j ∧ Made w wr (fairL G gn K (.slice ab k cb) (.slice (some ⟨g2, 0, none⟩) k ch) W S log (treeC L sh 4096 s (k * 10000000)))) (fun i _ => j - (intOf i).toNat)
                              case atStart => exact ⟨m, rfl, Nat.le_refl _, hm, HM5.out⟩
                              case round =>
                                obtain ⟨q, rfl, hmq, hqj, hM6⟩ := hrel
                                obtain ⟨wQ, rfl⟩ : ∃ x, x = wr := ⟨_, rfl⟩
                                have HM6 := Lib.hid hM6
                                clear hM6 HM5
                                by_cases hql : q < j
                                · as_aux_lemma =>
                                    have hIq : (q : Int) < j := by omega
                                    have hIq2 : (q : Int) < k := by omega
                                    obtain ⟨e2, he2⟩ : ∃ e, log[q]? = some e := ⟨log[q]'(by rw [HLOG.out]; omega), List.getElem?_eq_getElem _⟩
                                    have hfw : f < ws.length := by rw [HKL.out]; exact hfl
                                    have hgw : g < ws.length := by rw [HKL.out]; omega
                                    obtain ⟨p1, p2⟩ := HLG.out.half hfw hgw hqj he2 HEE.out (fun m' x h1 h2 h3 => HP.out m' x (by omega) (by omega) h3)
                                    obtain ⟨p3, p4⟩ := HLG.out.half hgw hfw hqj he2 HEE.out (fun m' x h1 h2 h3 => (HP.out m' x (by omega) (by omega) h3).symm)
                                    have s1 := (HLG.out.each e (List.mem_of_getElem? HEE.out)).sb f hfw
                                    have s2 := (HLG.out.each e (List.mem_of_getElem? HEE.out)).sb g hgw
                                    have b1 := HB.out _ (List.getElem_mem hfw)
                                    have b2 := HB.out _ (List.getElem_mem hgw)
                                    obtain ⟨_, _, rfl, y0⟩ := HW.out.get HM6.out.upd (List.getElem?_eq_getElem hfw)
                                    obtain ⟨_, _, he9, y1⟩ := HW.out.get HM6.out.upd (List.getElem?_eq_getElem hgw)
                                    cases he9
                                    obtain ⟨g5, g6, c6, rfl, z0, z1⟩ := f_beh [] HM6.out HLOG.out HEE.out (by omega)
                                    obtain ⟨_, g7, c7, he9, z2, z3⟩ := f_beh [] HM6.out HLOG.out he2 (by omega)
                                    cases he9
                                    have z4 := z1 f hfl
                                    have z5 := z1 g (by omega)
                                    have z6 := z3 f hfl
                                    have z7 := z3 g (by omega)
                                    generalize ws[f] = wf at *
                                    generalize ws[g] = wg at *
                                    generalize e.S f = A1 at *
                                    generalize e.S g = B1 at *
                                    generalize e2.S f = A0 at *
                                    generalize e2.S g = B0 at *
                                    obtain ⟨da, hda⟩ : ∃ d, A1 - A0 = d := ⟨_, rfl⟩
                                    obtain ⟨db, hdb⟩ : ∃ d, B1 - B0 = d := ⟨_, rfl⟩
                                    rw [hda, hdb] at p2 p4
                                    have i1 : (A1 : Int) - (A0 : Int) = (da : Int) := by omega
                                    have i2 : (B1 : Int) - (B0 : Int) = (db : Int) := by omega
                                    obtain ⟨xa, hxa⟩ : ∃ x, wf * da = x := ⟨_, rfl⟩
                                    obtain ⟨xb, hxb⟩ : ∃ x, wg * db = x := ⟨_, rfl⟩
                                    have m1 : xa ≤ 42949672960000000 := by rw [← hxa]; exact Nat.le_trans (Nat.mul_le_mul (show wf ≤ 4294967296 by omega) (show da ≤ 10000000 by omega)) (by decide)
                                    have m2 : xb ≤ 42949672960000000 := by rw [← hxb]; exact Nat.le_trans (Nat.mul_le_mul (show wg ≤ 4294967296 by omega) (show db ≤ 10000000 by omega)) (by decide)
                                    have i3 : (wf : Int) * (da : Int) = (xa : Int) := by rw [← hxa]; rfl
                                    have i4 : (wg : Int) * (db : Int) = (xb : Int) := by rw [← hxb]; rfl
                                    rw [hxa, hxb] at p2 p4
                                    obtain ⟨ww, hww⟩ : ∃ x, wf + wg = x := ⟨_, rfl⟩
                                    have hww2 : wg + wf = ww := by omega
                                    rw [hww] at p2
                                    rw [hww2] at p4
                                    have i5 : (wf : Int) + (wg : Int) = (ww : Int) := by omega
                                    obtain ⟨rm, hrm⟩ : ∃ x, ww * 65535 = x := ⟨_, rfl⟩
                                    rw [hrm] at p2 p4
                                    have i6 : (ww : Int) * 65535 = (rm : Int) := by omega
                                    have m3 : rm ≤ 600000000000000 := by omega
                                    obtain ⟨sa, hsa⟩ : ∃ x, xb + rm = x := ⟨_, rfl⟩
                                    obtain ⟨sb, hsb⟩ : ∃ x, xa + rm = x := ⟨_, rfl⟩
                                    have i7 : (xb : Int) + (rm : Int) = (sa : Int) := by omega
                                    have i8 : (xa : Int) + (rm : Int) = (sb : Int) := by omega
                                    have u0 : ∀ x : Nat, x ≤ 100000000000000000 → IntKind.u64.wrap (x : Int) = (x : Int) := fun x hx => by rw [IntKind.wrap_u64]; omega
                                    have u1 := u0 wf (by omega)
                                    have u2 := u0 wg (by omega)
                                    have u3 := u0 da (by omega)
                                    have u4 := u0 db (by omega)
                                    have u5 := u0 xa (by omega)
                                    have u6 := u0 xb (by omega)
                                    have u7 := u0 ww (by omega)
                                    have u8 := u0 rm (by omega)
                                    have u9 := u0 sa (by omega)
                                    have u10 := u0 sb (by omega)
                                    have f1 : decide ((xa : Int) > (sa : Int)) = false := decide_eq_false (by omega)
                                    have f2 : decide (sa < xa) = false := decide_eq_false (by omega)
                                    have f3 : decide ((xb : Int) > (sb : Int)) = false := decide_eq_false (by omega)
                                    have f4 : decide (sb < xb) = false := decide_eq_false (by omega)
                                    clear u0 p1 p2 p3 p4 s1 s2 hda hdb hxa hxb hww hww2 hrm hsa hsb z1 z3 he2 m1 m2 m3 b1 b2
                                    go_upto_region 43 with fail
                                    go_quiet (fail)
                                    go_upto_region 44 with fail
                                    go_quiet (fail)
                                    go_wp2_with fail
                                    go_roundw
                                    case rel => exact ⟨q + 1, by first | rfl | go_num, by omega, by omega, HM6.out.old ((Upd.refl _ _).drewN _)⟩
                                    case measure => simp [intOf]; omega
                                · obtain rfl : q = j := by omega
                                  have hIq : ¬ (q : Int) < q := by omega
                                  go_wp2_with fail
                                  go_roundw
                                  case rel => exact ⟨q + 1, by first | rfl | go_num, by omega, .inr ⟨m, rfl, by omega, HP.out⟩, HM6.out⟩
                                  case measure => simp [intOf]; omega
                      · obtain rfl : j = k := by omega
                        have hIj : ¬ (j : Int) < j := by omega
                        clear HFV
                        go_wp2_with fail
                        go_roundw
                        case rel => exact ⟨g + 1, by first | rfl | go_num, by omega, HM4.out⟩
                        case measure => simp [intOf]; omega
                  · obtain rfl : g = f := by omega
                    have hIg : ¬ (g : Int) < g := by omega
                    go_wp2_with fail
                    go_roundw
                    case rel => exact ⟨g + 1, by first | rfl | go_num, by omega, HM3.out⟩
                    case measure => simp [intOf]; omega
              · obtain rfl : f = K := by omega
                have hIf : ¬ (f : Int) < f := by omega
                have hu := HM2.out.upd
                have hlv := Lib.hid (HL _ hu).out
                clear HM2 HL
                go_wp2_with fail
                refine hlv.out.mono ?_
                rintro e w9 ⟨rfl, u9⟩
                go_wp2_with fail
                go_ret
                exact ⟨rfl, hu.trans u9 (fun _ _ h => h)⟩
theorem fair_law (v : Value) (li : List Int) (v2 : Value) (l : List Act) (hok : ∀ a ∈ l, a.later ≤ 18446744073709551615 ∧ a.fl ≤ 4294967295 ∧ a.id ≤ 4294967295 ∧ a.len ≤ 18446744073709551615) (w : World) (hr : RowAt w v (li.map (.int .u32))) (hwf : ∀ n ∈ li, (Lit.int .u32 n).wf = true) (hv2 : RowsAt w v2 l.length (l.flatMap act)) (E : Env w) :
    Calls Tryd.prog 3 #[v, v2] w fun e w' => e = .returned (.bool true) ∧ Upd Nowhere w w' := by
  obtain ⟨ad, c, rfl, hw, hb⟩ := wts_of hr hwf
  obtain ⟨ad2, c2, rfl, ha⟩ := acts_of hv2
  have hok2 : ∀ a ∈ l, a.Ok := fun a h => ⟨(hok a h).1, Nat.lt_succ_of_le (hok a h).2.1, Nat.lt_succ_of_le (hok a h).2.2.1, (hok a h).2.2.2⟩
  by_cases h : (li.map Int.toNat).length < 2 ∨ 5 < (li.map Int.toNat).length ∨ 100 < l.length
  · exact fair_big ad _ c ad2 l.length c2 w E h
  · exact fair_walk ad c _ ad2 c2 l w E hw hb (by omega) (by omega) (by omega) ha hok2
end Go.Proofs.YtllfloapiliheaaDoor.Tree
