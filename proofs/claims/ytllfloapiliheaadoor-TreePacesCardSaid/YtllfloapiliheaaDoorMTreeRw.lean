/- TreePaces0, LaneU, TreePaces1, one behind the other. -/
import Derived.Test.YtllfloapiliheaaDoorMTreeLe
import Derived.Test.YtllfloapiliheaaDoorBase
import Derived.Test.YtllfloapiliheaaDoorLaws
import Derived.ArgAppend
namespace Go.Proofs.YtllfloapiliheaaDoor.Tree
open HeapE (El)
open WheelR (Ri)
open Cal (ins Rises ins_mem ins_len ins_rises ins_behind)
/-- When a node is to rise. -/
def tms (v : Nat) (H : List (Nat × Ri)) : List Nat := (H.filter (fun a => decide (a.2.1 = v))).map (fun a => a.1)
theorem tms_cons (v : Nat) (a : Nat × Ri) (l : List (Nat × Ri)) : tms v (a :: l) = if a.2.1 = v then a.1 :: tms v l else tms v l := by
  unfold tms
  by_cases h : a.2.1 = v
  · rw [if_pos h, List.filter_cons_of_pos (by simpa using h)]; rfl
  · rw [if_neg h, List.filter_cons_of_neg (by simpa using h)]
theorem tms_ins_off {v t : Nat} {x : Ri} (h : x.1 ≠ v) (l : List (Nat × Ri)) : tms v (ins t x l) = tms v l := by
  induction l with
  | nil => unfold ins; rw [tms_cons, if_neg h]
  | cons a l ih =>
    unfold ins
    split
    · rw [tms_cons, if_neg h]
    · rw [tms_cons, tms_cons, ih]
theorem tms_ins {v t : Nat} {x : Ri} (h : x.1 = v) : ∀ {l : List (Nat × Ri)}, (∀ u ∈ tms v l, u ≤ t) → Rises l → tms v (ins t x l) = tms v l ++ [t]
  | [], _, _ => by unfold ins; rw [tms_cons, if_pos h]; rfl
  | a :: l, hl, hr => by
    have hr2 := List.pairwise_cons.1 hr
    unfold ins
    split
    · rename_i hlt
      have hlt2 : t < a.1 := by
        first
          | exact hlt
          | exact of_decide_eq_true hlt
          | (simpa using hlt)
      have e : tms v (a :: l) = [] := by
        cases he : tms v (a :: l) with
        | nil => rfl
        | cons u r =>
          exfalso
          have hu : u ∈ tms v (a :: l) := by rw [he]; exact List.mem_cons_self ..
          have h1 := hl u hu
          obtain ⟨b, hb, hbu⟩ := List.mem_map.1 hu
          have hbm := (List.mem_filter.1 hb).1
          rcases List.mem_cons.1 hbm with rfl | hbm
          · omega
          · have := hr2.1 b hbm; omega
      rw [tms_cons, if_pos h, e]; rfl
    · rw [tms_cons, tms_cons]
      by_cases ha : a.2.1 = v
      · rw [if_pos ha, if_pos ha, tms_ins h (fun u hu => hl u (by rw [tms_cons, if_pos ha]; exact List.mem_cons_of_mem _ hu)) hr2.2]; rfl
      · rw [if_neg ha, if_neg ha, tms_ins h (fun u hu => hl u (by rw [tms_cons, if_neg ha]; exact hu)) hr2.2]
/-- Each is at most the other. -/
inductive Le2 : List Nat → List Nat → Prop
  | nil : Le2 [] []
  | cons {x y : Nat} {a b : List Nat} : x ≤ y → Le2 a b → Le2 (x :: a) (y :: b)
theorem Le2.snoc {x y : Nat} (hxy : x ≤ y) : ∀ {a b : List Nat}, Le2 a b → Le2 (a ++ [x]) (b ++ [y])
  | _, _, .nil => .cons hxy .nil
  | _, _, .cons h1 h2 => .cons h1 (Le2.snoc hxy h2)
/-- What the law knows: of each leaf when at soonest its packets may leave, and from when on the next one. -/
structure Pac (sh : Sh) (k : Nat) (s : TS) (X : Nat → List Nat) (N : Nat → Nat) : Prop where
  flow : ∀ i, i < k → ∀ a ∈ s.q (i + 1), a.2.2.1 = i
  rows : ∀ i, i < k → ∃ Xa Xb, X i = Xa ++ Xb ∧ Xa.length = cntE (i + 1) (s.q 0) ∧ (∀ x ∈ Xa, x ≤ s.now) ∧ Le2 Xb (tms (i + 1) s.H)
  frs : ∀ i, i < k → (∀ t ∈ tms (i + 1) s.H, t ≤ s.fr (i + 1)) ∧ N i ≤ s.fr (i + 1) + 1
section
variable {sh : Sh} {s : TS} {room gap : Nat} {ws : List Nat} {X : Nat → List Nat} {N : Nat → Nat}
theorem Pac.later (h : Pac sh ws.length s X N) (t : Nat) : Pac sh ws.length { s with now := max s.now t } X N :=
  ⟨h.flow, fun i hi => by
    obtain ⟨Xa, Xb, h1, h2, h3, h4⟩ := h.rows i hi
    exact ⟨Xa, Xb, h1, h2, fun x hx => by have := h3 x hx; show x ≤ max s.now t; omega, h4⟩, h.frs⟩
theorem come_root (S : TS) (t : Nat) (e : El) (b : Nat) : come sh 32 S t 0 e b = entered sh S 0 e b := by
  unfold come
  rw [if_pos rfl]
theorem entered_fr (i : Nat) (e : El) (b : Nat) : (entered sh s i e b).fr = s.fr := tagged_fr sh s i e b
theorem Pac.rise (hs : sh.Ok) (hf : FlatSh sh 1 ws gap) (hb : Bal sh s 0) (h : Pac sh ws.length s X N) : Pac sh ws.length (rise1 sh s) X N := by
  rcases due_or hb with hst | ⟨t, v, b, r, hH, ht⟩
  · rw [rise1_still hst]; exact h
  · obtain ⟨g1, _⟩ := rise1_some hs hb hH ht
    obtain ⟨_, _, _, _, hv, hv0, _⟩ := headless hb hH
    rw [hf.par, come_root] at g1
    rw [g1]
    obtain ⟨i0, rfl⟩ : ∃ i0, v = i0 + 1 := ⟨v - 1, by omega⟩
    have hn := hf.n
    have hq : (entered sh { s with H := r, wn := t } 0 (chi (i0 + 1)) b).q = up s.q 0 (ins (rk sh { s with H := r, wn := t } 0 (chi (i0 + 1))) (chi (i0 + 1)) (s.q 0)) := entered_q ..
    refine ⟨fun i hi a ha => ?_, fun i hi => ?_, fun i hi => ?_⟩
    · rw [hq, up_off _ (by omega)] at ha
      exact h.flow i hi a ha
    · obtain ⟨Xa, Xb, h1, h2, h3, h4⟩ := h.rows i hi
      rw [hq, up_at, cntE_ins, entered_H, entered_now]
      rw [hH, tms_cons] at h4
      by_cases e : i0 = i
      · subst e
        rw [if_pos (show ((t, ((i0 + 1, b) : Ri)) : Nat × Ri).2.1 = i0 + 1 from rfl)] at h4
        cases h4 with
        | cons h5 h6 =>
          rename_i x Xb'
          refine ⟨Xa ++ [x], Xb', by rw [h1]; simp, ?_, fun y hy => ?_, h6⟩
          · rw [List.length_append, h2, if_pos (show (chi (i0 + 1)).1 = ((i0 + 1 : Nat) : Int) from rfl)]; rfl
          · rcases List.mem_append.1 hy with hy | hy
            · exact h3 y hy
            · rw [List.mem_singleton] at hy; subst hy
              show y ≤ s.now
              have : y ≤ t := h5
              omega
      · rw [if_neg (show ¬ ((t, ((i0 + 1, b) : Ri)) : Nat × Ri).2.1 = i + 1 from fun h => e (by have : i0 + 1 = i + 1 := h; omega))] at h4
        refine ⟨Xa, Xb, h1, ?_, h3, h4⟩
        rw [if_neg (fun h => e (by have : ((i0 + 1 : Nat) : Int) = ((i + 1 : Nat) : Int) := h; omega))]
        exact h2
    · rw [entered_H, entered_fr]
      obtain ⟨h1, h2⟩ := h.frs i hi
      refine ⟨fun u hu => h1 u ?_, h2⟩
      rw [hH, tms_cons]
      split
      · exact List.mem_cons_of_mem _ hu
      · exact hu
theorem Pac.rises (hs : sh.Ok) (hf : FlatSh sh 1 ws gap) : ∀ (n : Nat) {s : TS}, Bal sh s 0 → Pac sh ws.length s X N → Pac sh ws.length (rises sh n s) X N
  | 0, _, _, h => h
  | n + 1, s, hb, h => by
    unfold Tree.rises
    have h1 := h.rise hs hf hb
    rcases due_or hb with hst | ⟨t, v, b, r, hH, ht⟩
    · rw [rise1_still hst] at h1 ⊢
      exact Pac.rises hs hf n hb h1
    · exact Pac.rises hs hf n (rise1_some hs hb hH ht).2.2.2.2.1 h1
theorem Pac.pass (hs : sh.Ok) (hf : FlatSh sh 1 ws gap) (hb : Bal sh s 0) (h : Pac sh ws.length s X N) {t : Nat} (ht : t ≤ 18446744073709551615) : Pac sh ws.length (pass sh s t) X N := by
  unfold Tree.pass
  exact Pac.rises hs hf _ (later_bal hb ht) (h.later t)
/-- A packet that is held back. -/
theorem flat_held (hf : FlatSh sh 1 ws gap) (hg : gap ≠ 0) {i : Nat} (hi : i < ws.length) (S : TS) (t : Nat) (p : Nat × Nat × Nat) :
    come sh 32 S t (i + 1) ((0 : Int), p) p.2.2 = holds sh (entered sh S (i + 1) ((0 : Int), p) p.2.2) t (i + 1) p.2.2 := by
  unfold come
  rw [if_neg (by omega), if_neg (by rw [hf.g1 i hi]; exact hg)]
theorem Pac.held (hf : FlatSh sh 1 ws gap) (hb : Bal sh s 0) (h : Pac sh ws.length s X N) {i : Nat} (hi : i < ws.length) (id len T y : Nat) (hT : s.now = T) (hy : y = if N i = 0 then T + 1 else N i) (hbd : y + gap * len ≤ 18446744073709551615) :
    Pac sh ws.length (holds sh (entered sh { s with m := s.m + 1 } (i + 1) ((0 : Int), (i, id, len)) len) T (i + 1) len) (up X i (X i ++ [y - 1])) (up N i (y + gap * len)) := by
  have hq : (entered sh { s with m := s.m + 1 } (i + 1) ((0 : Int), (i, id, len)) len).q = up s.q (i + 1) (ins (rk sh { s with m := s.m + 1 } (i + 1) ((0 : Int), (i, id, len))) ((0 : Int), (i, id, len)) (s.q (i + 1))) := entered_q ..
  have hfr : (entered sh { s with m := s.m + 1 } (i + 1) ((0 : Int), (i, id, len)) len).fr = s.fr := entered_fr ..
  have hHH : (entered sh { s with m := s.m + 1 } (i + 1) ((0 : Int), (i, id, len)) len).H = s.H := entered_H ..
  have hnw : (entered sh { s with m := s.m + 1 } (i + 1) ((0 : Int), (i, id, len)) len).now = s.now := entered_now ..
  obtain ⟨hfr1, hfr2⟩ := h.frs i hi
  have hy2 : y - 1 ≤ max T (s.fr (i + 1)) := by rw [hy]; split <;> omega
  have hsrt : ∀ u ∈ tms (i + 1) s.H, u ≤ max T (s.fr (i + 1)) := fun u hu => by have := hfr1 u hu; omega
  have htm : tms (i + 1) (ins (max T (s.fr (i + 1))) ((i + 1, len) : Ri) s.H) = tms (i + 1) s.H ++ [max T (s.fr (i + 1))] := tms_ins (v := i + 1) (x := ((i + 1, len) : Ri)) rfl hsrt hb.hr
  refine ⟨fun j hj a ha => ?_, fun j hj => ?_, fun j hj => ?_⟩
  · change a ∈ (entered sh { s with m := s.m + 1 } (i + 1) ((0 : Int), (i, id, len)) len).q (j + 1) at ha
    rw [hq] at ha
    by_cases e : j = i
    · subst e
      rw [up_at] at ha
      rcases ins_mem.1 ha with rfl | ha
      · rfl
      · exact h.flow j hj a ha
    · rw [up_off _ (by omega)] at ha
      exact h.flow j hj a ha
  · obtain ⟨Xa, Xb, h1, h2, h3, h4⟩ := h.rows j hj
    show ∃ Xa Xb, up X i (X i ++ [y - 1]) j = Xa ++ Xb ∧ Xa.length = cntE (j + 1) ((entered sh { s with m := s.m + 1 } (i + 1) ((0 : Int), (i, id, len)) len).q 0) ∧ (∀ x ∈ Xa, x ≤ (entered sh { s with m := s.m + 1 } (i + 1) ((0 : Int), (i, id, len)) len).now) ∧ Le2 Xb (tms (j + 1) (ins (max T ((entered sh { s with m := s.m + 1 } (i + 1) ((0 : Int), (i, id, len)) len).fr (i + 1))) ((i + 1, len) : Ri) (entered sh { s with m := s.m + 1 } (i + 1) ((0 : Int), (i, id, len)) len).H))
    rw [hq, hnw, hfr, hHH, up_off s.q (by omega)]
    by_cases e : j = i
    · subst e
      rw [up_at, htm]
      refine ⟨Xa, Xb ++ [y - 1], by rw [h1, List.append_assoc], h2, h3, ?_⟩
      exact h4.snoc hy2
    · rw [up_off _ e, tms_ins_off (show i + 1 ≠ j + 1 by omega)]
      exact ⟨Xa, Xb, h1, h2, h3, h4⟩
  · show (∀ t ∈ tms (j + 1) (ins (max T ((entered sh { s with m := s.m + 1 } (i + 1) ((0 : Int), (i, id, len)) len).fr (i + 1))) ((i + 1, len) : Ri) (entered sh { s with m := s.m + 1 } (i + 1) ((0 : Int), (i, id, len)) len).H), t ≤ up (entered sh { s with m := s.m + 1 } (i + 1) ((0 : Int), (i, id, len)) len).fr (i + 1) (mad (max T ((entered sh { s with m := s.m + 1 } (i + 1) ((0 : Int), (i, id, len)) len).fr (i + 1))) (sh.gap (i + 1)) len) (j + 1)) ∧ up N i (y + gap * len) j ≤ up (entered sh { s with m := s.m + 1 } (i + 1) ((0 : Int), (i, id, len)) len).fr (i + 1) (mad (max T ((entered sh { s with m := s.m + 1 } (i + 1) ((0 : Int), (i, id, len)) len).fr (i + 1))) (sh.gap (i + 1)) len) (j + 1) + 1
    rw [hfr, hHH, hf.g1 i hi]
    by_cases e : j = i
    · subst e
      have hfm := hb.fit.fr (j + 1)
      have hnm := hb.now.2
      rw [up_at, up_at, htm]
      unfold mad
      refine ⟨fun u hu => ?_, ?_⟩
      · rcases List.mem_append.1 hu with hu | hu
        · have := hsrt u hu; omega
        · rw [List.mem_singleton] at hu; omega
      · omega
    · rw [up_off _ (by omega), up_off _ e, tms_ins_off (show i + 1 ≠ j + 1 by omega)]
      exact h.frs j hj
/-- What a Push does where packets are held back. -/
theorem held_push (hs : sh.Ok) (hf : FlatSh sh 1 ws gap) (hg : gap ≠ 0) {room : Nat} (hgd : Good sh room s) (h : Pac sh ws.length s X N) {i : Nat} (hi : i < ws.length) (id len : Nat) (hid : id < 4294967296) (hi32 : i < 4294967296) {T : Nat} (hT : T ≤ 18446744073709551615) (hnow : s.now ≤ T) :
    ∃ v s', push sh room s T ((i + 1 : Nat) : Int) (i, id, len) = (v, s') ∧ s'.now = T ∧ ((v ≠ 0 ∧ Pac sh ws.length s' X N) ∨
      (v = 0 ∧ 1 ≤ len ∧ len ≤ 65535 ∧ ∀ y, y = (if N i = 0 then T + 1 else N i) → y + gap * len ≤ 18446744073709551615 → Pac sh ws.length s' (up X i (X i ++ [y - 1])) (up N i (y + gap * len)))) := by
  have hn := hf.n
  have h1 := pass_good hs hgd hT
  have hnw : (pass sh s T).now = T := by
    have := (pass_bal hs hgd.bal hT).2.2.1
    rw [this]; omega
  have hp := h.pass hs hf hgd.bal hT
  unfold push
  simp only [Int.toNat_natCast]
  rw [if_neg (by omega), if_neg (by rw [hf.l1]; simp)]
  by_cases hc : len = 0 ∨ 65535 < len
  · rw [if_pos hc]
    exact ⟨_, _, rfl, hnw, .inl ⟨by omega, hp⟩⟩
  · rw [if_neg hc]
    by_cases hm : room ≤ (pass sh s T).m
    · rw [if_pos hm]
      exact ⟨_, _, rfl, hnw, .inl ⟨by omega, hp⟩⟩
    · rw [if_neg hm]
      obtain ⟨g1, g2, g3, g4⟩ := came_good hs h1 (i := i + 1) (by omega) (hf.l1 i) (e := ((0 : Int), i, id, len)) ⟨rfl, hi32, hid, by show len ≤ 65535; omega⟩ (by omega)
      have hnw2 := h1.bal.now.2
      have hpn := (pass_bal hs g3.bal hnw2).2.2.1
      refine ⟨_, _, rfl, ?_, .inr ⟨rfl, by omega, by omega, fun y hy hbd => ?_⟩⟩
      · change (pass sh (come sh 32 { pass sh s T with m := (pass sh s T).m + 1 } (pass sh s T).now (i + 1) ((0 : Int), i, id, len) len) (pass sh s T).now).now = max (come sh 32 { pass sh s T with m := (pass sh s T).m + 1 } (pass sh s T).now (i + 1) ((0 : Int), i, id, len) len).now (pass sh s T).now at hpn
        show (pass sh (come sh 32 { pass sh s T with m := (pass sh s T).m + 1 } (pass sh s T).now (i + 1) ((0 : Int), i, id, len) len) (pass sh s T).now).now = T
        rw [hpn, g4.now]
        show max (pass sh s T).now (pass sh s T).now = T
        omega
      · have h5 := hp.held hf h1.bal hi id len T y hnw hy hbd
        have h6 := flat_held hf hg hi { pass sh s T with m := (pass sh s T).m + 1 } (pass sh s T).now (i, id, len)
        rw [hnw] at h6
        show Pac sh ws.length (pass sh (come sh 32 { pass sh s T with m := (pass sh s T).m + 1 } (pass sh s T).now (i + 1) ((0 : Int), i, id, len) len) (pass sh s T).now) _ _
        rw [hnw]
        change come sh 32 { pass sh s T with m := (pass sh s T).m + 1 } T (i + 1) ((0 : Int), i, id, len) len = _ at h6
        have h7 := g3.bal
        change Bal sh (come sh 32 { pass sh s T with m := (pass sh s T).m + 1 } (pass sh s T).now (i + 1) ((0 : Int), i, id, len) len) 0 at h7
        rw [hnw] at h7
        rw [h6] at h7 ⊢
        exact h5.pass hs hf h7 hT
/-- What leaves may leave. -/
theorem Pac.left (h : Pac sh ws.length s X N) {r : Nat} {t0 : List (Nat × El)} {i r1 : Nat} {p : Nat × Nat × Nat} {t1 : List (Nat × El)} (h1 : s.q 0 = (r, chi (i + 1)) :: t0) (hi : i < ws.length) (h3 : s.q (i + 1) = (r1, ((0 : Int), p)) :: t1) :
    p.1 = i ∧ ∃ x xr, X i = x :: xr ∧ x ≤ s.now ∧ Pac sh ws.length (got sh s r t0 i t1) (up X i xr) N := by
  have hp : p.1 = i := h.flow i hi _ (by rw [h3]; exact List.mem_cons_self ..)
  obtain ⟨Xa, Xb, a1, a2, a3, a4⟩ := h.rows i hi
  rw [h1, cntE_cons, if_pos (show ((r, chi (i + 1)) : Nat × El).2.1 = ((i + 1 : Nat) : Int) from rfl)] at a2
  cases Xa with
  | nil => simp at a2
  | cons x Xa =>
    rw [List.length_cons] at a2
    refine ⟨hp, x, Xa ++ Xb, a1, a3 x (List.mem_cons_self ..), fun j hj a ha => ?_, fun j hj => ?_, fun j hj => ?_⟩
    · rw [got_q] at ha
      by_cases e : j = i
      · subst e
        rw [if_pos rfl] at ha
        exact h.flow j hj a (by rw [h3]; exact List.mem_cons_of_mem _ ha)
      · rw [if_neg (by omega), if_neg (by omega)] at ha
        exact h.flow j hj a ha
    · rw [got_q, if_neg (by omega), if_pos rfl, got_H, got_now]
      by_cases e : j = i
      · subst e
        rw [up_at]
        exact ⟨Xa, Xb, rfl, by omega, fun y hy => a3 y (List.mem_cons_of_mem _ hy), a4⟩
      · rw [up_off _ e]
        obtain ⟨Ya, Yb, b1, b2, b3, b4⟩ := h.rows j hj
        rw [h1, cntE_cons, if_neg (show ¬ ((r, chi (i + 1)) : Nat × El).2.1 = ((j + 1 : Nat) : Int) from fun h => e (by have : ((i + 1 : Nat) : Int) = ((j + 1 : Nat) : Int) := h; omega))] at b2
        exact ⟨Ya, Yb, b1, b2, b3, b4⟩
    · rw [got_H, got_fr]
      exact h.frs j hj
end
end Go.Proofs.YtllfloapiliheaaDoor.Tree
namespace Go.Proofs.YtllfloapiliheaaDoor.LU
open Go.RowKit
/-- A slice of numbers of its own, wherever in its array it begins. -/
def Lane (TI : TypeId) (w : World) (v : Value) (xs : List Nat) : Prop :=
  (v = .slice none 0 0 ∧ xs = []) ∨ ∃ g o c, v = .slice (some ⟨g, o, none⟩) xs.length c ∧ xs.length ≤ c ∧ ∃ cur : Array Value, Blk w g cur TI ∧ o + c ≤ cur.size ∧ ∀ j x, xs[j]? = some x → cur[o + j]? = some (.int .u64 (x : Nat))
section
variable {TI : TypeId} {w w' : World} {v : Value} {xs : List Nat}
theorem Lane.upd (h : Lane TI w v xs) {S : Nat → Prop} (hu : Upd S w w') (hs : ∀ k, v.ownBlock = some k → ¬ S k) : Lane TI w' v xs := by
  rcases h with h | ⟨g, o, c, rfl, h1, cur, h2, h3⟩
  · exact .inl h
  · exact .inr ⟨g, o, c, rfl, h1, cur, h2.kept hu (hs g rfl), h3⟩
theorem Lane.lt (h : Lane TI w v xs) {k : Nat} (hk : v.ownBlock = some k) : k < w.heap.size := by
  rcases h with ⟨rfl, _⟩ | ⟨g, o, c, rfl, h1, cur, h2, _⟩
  · cases hk
  · obtain rfl : g = k := by simpa [Value.ownBlock] using hk
    exact h2.lt
theorem Lane.form (h : Lane TI w v xs) : ∃ ad c, v = .slice ad xs.length c := by
  rcases h with ⟨rfl, rfl⟩ | ⟨g, o, c, rfl, _⟩
  · exact ⟨none, 0, rfl⟩
  · exact ⟨_, c, rfl⟩
theorem Lane.cons {x : Nat} {r : List Nat} (h : Lane TI w v (x :: r)) : ∃ g o c, v = .slice (some ⟨g, o, none⟩) (r.length + 1) (c + 1) ∧ w.cell? ⟨g, o, none⟩ = some (.int .u64 (x : Nat)) ∧ g < w.heap.size ∧
    Lane TI w (.slice (if c = 0 then some ⟨g, o, none⟩ else some ⟨g, o + 1, none⟩) r.length c) r := by
  rcases h with ⟨_, h⟩ | ⟨g, o, c, rfl, h1, cur, h2, h3, h4⟩
  · cases h
  · have hl : (x :: r).length = r.length + 1 := rfl
    rw [hl] at h1 ⊢
    obtain ⟨d, rfl⟩ : ∃ d, c = d + 1 := ⟨c - 1, by omega⟩
    refine ⟨g, o, d, rfl, h2.cellAt (by simpa using h4 0 x rfl), h2.lt, ?_⟩
    by_cases hd : d = 0
    · subst hd
      have hr : r = [] := List.eq_nil_of_length_eq_zero (by omega)
      subst hr
      exact .inr ⟨g, o, 0, rfl, Nat.le_refl _, cur, h2, by omega, fun j y hy => by cases hy⟩
    · rw [if_neg hd]
      refine .inr ⟨g, o + 1, d, rfl, by omega, cur, h2, by omega, fun j y hy => ?_⟩
      have := h4 (j + 1) y (by simpa using hy)
      rw [show o + 1 + j = o + (j + 1) by omega]
      exact this
theorem Lane.row (h : Lane TI w v xs) : ∃ ad c, v = .slice ad xs.length c ∧ (ad = none → xs = [] ∧ c = 0) ∧ ∀ b, ad = some b → ∀ (j x : Nat), xs[j]? = some x → b.spot = none ∧ w.cell? ⟨b.block, b.off + j, none⟩ = some (.int .u64 (x : Nat)) := by
  rcases h with ⟨rfl, rfl⟩ | ⟨g, o, c, rfl, _, cur, h2, _, h4⟩
  · exact ⟨none, 0, rfl, fun _ => ⟨rfl, rfl⟩, fun b hb => by cases hb⟩
  · refine ⟨_, c, rfl, (fun h => by cases h), fun b hb j x hx => ?_⟩
    obtain rfl := Option.some.inj hb
    exact ⟨rfl, h2.cellAt (h4 j x hx)⟩
end
/-- One more is laid behind: in place. -/
theorem Lane.put {TI : TypeId} {w : World} {g o c : Nat} {xs : List Nat} (h : Lane TI w (.slice (some ⟨g, o, none⟩) xs.length c) xs) (hc : xs.length + 1 ≤ c) (x : Nat) (hg : ∃ cur, Blk w g cur TI ∧ o + c ≤ cur.size) :
    Lane TI (w.setCell ⟨g, o + xs.length, none⟩ (.int .u64 (x : Nat))) (.slice (some ⟨g, o, none⟩) (xs.length + 1) c) (xs ++ [x]) := by
  obtain ⟨cur0, hb0, hs0⟩ := hg
  rcases h with ⟨h, _⟩ | ⟨g', o', c', he, h1, cur, h2, h3, h4⟩
  · cases h
  · cases he
    refine .inr ⟨g, o, c, by simp, by simpa using hc, _, h2.set _ _, by simpa using h3, fun j y hy => ?_⟩
    rcases Nat.lt_or_ge j xs.length with hj | hj
    · rw [List.getElem?_append_left hj] at hy
      rw [Array.getElem?_setIfInBounds_ne (by omega)]
      exact h4 j y hy
    · have hj2 : j = xs.length := by
        rcases Nat.lt_or_ge j (xs.length + 1) with h' | h'
        · omega
        · rw [List.getElem?_eq_none (by simp; omega)] at hy; cases hy
      subst hj2
      have hy' : x = y := by simpa using hy
      subst hy'
      exact Array.getElem?_setIfInBounds_self_of_lt (by omega)
/-- One more, in a new row. -/
theorem Lane.grown {TI : TypeId} {w w' : World} {v : Value} {ys : List Nat} (h : w'.ownsRow w.heap.size TI 1 v ys.length (ys.map fun x => .int .u64 (x : Nat))) : Lane TI w' v ys ∧ ∀ k, v.ownBlock = some k → w.heap.size ≤ k := by
  refine ⟨?_, fun k hk => (h.lt k hk).1⟩
  rcases h.2 with ⟨rfl, h0⟩ | ⟨g, cap, cur, rfl, _, hg, hn, _, hs, ht⟩
  · exact .inl ⟨rfl, List.eq_nil_of_length_eq_zero h0⟩
  · refine .inr ⟨g, 0, cap, rfl, hn, cur, hg, by omega, fun j x hx => ?_⟩
    have h1 : (ys.map fun x => Value.int .u64 (x : Nat))[j]? = some (.int .u64 (x : Nat)) := by rw [List.getElem?_map, hx]; rfl
    rw [← ht, List.getElem?_take] at h1
    split at h1
    · rw [Nat.zero_add]; simpa using h1
    · cases h1
theorem wpList_lane {P : Program} {ops : Array Oper} {rest : List Oper} {o : Oper} {a : Act} {Q : Exit → Act → World → Prop} {w : World} (hgd : o.guard = none) (s x : Operand) (t : TypeId)
    (ho : o.op = .call { callee := .builtin .append, args := #[s, x], argTypes := #[t, t] })
    (TI : TypeId) (i : TypeInfo) (z : Value) (ht : P.underlying t = some (.slice TI)) (hi : P.info? TI = some i) (hz : i.zero = some z) (hsize : i.size = 1) (hby : i.bytes = 8) (hzs : z.cells.size = 1)
    (v : Value) (xs : List Nat) (hs : a.eval s = v) (hl : Lane TI w v xs) (g c y : Nat) (hx : a.eval x = .slice (some ⟨g, 0, none⟩) 1 c) (hy : w.cell? ⟨g, 0, none⟩ = some (.int .u64 (y : Nat))) (hn : xs.length ≤ 65536)
    (h : ∀ ad' c' w', Lane TI w' (.slice ad' (xs.length + 1) c') (xs ++ [y]) → Upd (fun k => v.ownBlock = some k) w w' → OwnOrNew w v (.slice ad' (xs.length + 1) c') → wpList P ops Q rest (a.put o.dst (.slice ad' (xs.length + 1) c')) w') : wpList P ops Q (o :: rest) a w := by
  have hnews : ∀ j u, [Value.int .u64 (y : Nat)][j]? = some u → w.cell? ⟨g, j, none⟩ = some u := fun j u hj => by
    cases j with
    | zero => obtain rfl := Option.some.inj hj; exact hy
    | succ j => simp at hj
  rcases hl with ⟨rfl, rfl⟩ | ⟨g2, o2, c2, rfl, h1, cur, h2, h3, h4⟩
  · refine wpList_push hgd s x t ho w.heap.size TI i z 1 8 ht hi hz hsize hby hzs (by decide) (by decide) (.slice none 0 0) 0 [] hs (ownsRow_nil _ _ _ _) g c [.int .u64 (y : Nat)] hx rfl hnews (by simp [Value.oneCell']) (by omega) (Nat.le_refl _) ?_
    intro v' w' hown hu hno
    have hln : Lane TI w' v' ([] ++ [y]) := (Lane.grown (w := w) (ys := [y]) hown).1
    obtain ⟨ad', c', rfl⟩ := hln.form
    exact h ad' c' w' hln hu hno
  · have hcell : ∀ j u, (xs.map fun x => Value.int .u64 (x : Nat))[j]? = some u → w.cell? ⟨g2, o2 + j, none⟩ = some u := fun j u hj => by
      rw [List.getElem?_map] at hj
      cases hx2 : xs[j]? with
      | none => rw [hx2] at hj; cases hj
      | some q => rw [hx2] at hj; obtain rfl := Option.some.inj hj; exact h2.cellAt (h4 j q hx2)
    refine wpList_append_arg w hgd s x t ho TI i z 1 8 ht hi hz hsize hby hzs (by decide) g2 o2 xs.length c2 (xs.map fun x => .int .u64 (x : Nat)) hs (by simp) hcell ⟨g, 0, none⟩ 1 c [.int .u64 (y : Nat)] hx rfl (fun j u hj => by rw [add_at, Nat.zero_add]; exact hnews j u hj) (by simp [Value.oneCell']) (fun hr j hj => ?_) (by unfold maxLen; omega) (by omega) (fun hr => ?_) (fun hr v' w' hown hgr => ?_)
    · simp only [List.length_singleton] at hj
      obtain rfl : j = 0 := by omega
      refine ⟨?_, h2.free _⟩
      rw [h2.cell, Array.getElem?_eq_getElem (by omega)]
      rfl
    · have e : w.setCells g2 (o2 + xs.length * 1) [.int .u64 (y : Nat)] = w.setCell ⟨g2, o2 + xs.length, none⟩ (.int .u64 (y : Nat)) := by rw [Nat.mul_one]; rfl
      rw [e]
      refine h (some ⟨g2, o2, none⟩) c2 _ (Lane.put (.inr ⟨g2, o2, c2, rfl, h1, cur, h2, h3, h4⟩) hr y ⟨cur, h2, h3⟩) (Upd.setCell (S := fun k => (Value.slice (some ⟨g2, o2, none⟩) xs.length c2).ownBlock = some k) (a := ⟨g2, o2 + xs.length, none⟩) (Upd.refl _ _) (fun _ => rfl) _) (fun k hk => .inl hk)
    · have hln : Lane TI w' v' (xs ++ [y]) ∧ ∀ k, v'.ownBlock = some k → w.heap.size ≤ k := Lane.grown (w := w) (ys := xs ++ [y]) (by rw [List.length_append, List.map_append]; exact hown)
      obtain ⟨ad', c', e⟩ := hln.1.form
      rw [List.length_append, List.length_singleton] at e
      subst e
      exact h ad' c' w' hln.1 ((Upd.refl _ w).grown hgr (fun k _ hk => by cases hk)) (fun k hk => .inr (hln.2 k hk))
/-- The same, as a run. -/
theorem run_lane {P : Program} {w : World} (t ty : TypeId) (TI : TypeId) (i : TypeInfo) (z : Value) (ht : P.underlying t = some (.slice TI)) (hi : P.info? TI = some i) (hz : i.zero = some z) (hsize : i.size = 1) (hby : i.bytes = 8) (hzs : z.cells.size = 1)
    (v : Value) (xs : List Nat) (hl : Lane TI w v xs) (g c y : Nat) (hy : w.cell? ⟨g, 0, none⟩ = some (.int .u64 (y : Nat))) (hn : xs.length ≤ 65536) :
    ∃ ad' c' w', (Builtin.append_ #[t, t] ty #[v, .slice (some ⟨g, 0, none⟩) 1 c]).run P w = .ok (.slice ad' (xs.length + 1) c') w' ∧ Lane TI w' (.slice ad' (xs.length + 1) c') (xs ++ [y]) ∧ Upd (fun k => v.ownBlock = some k) w w' ∧ OwnOrNew w v (.slice ad' (xs.length + 1) c') := by
  have hnews : ∀ j u, [Value.int .u64 (y : Nat)][j]? = some u → w.cell? ((⟨g, 0, none⟩ : Addr).add j) = some u := fun j u hj => by
    rw [add_at, Nat.zero_add]
    cases j with
    | zero => obtain rfl := Option.some.inj hj; exact hy
    | succ j => simp at hj
  rcases hl with ⟨rfl, rfl⟩ | ⟨g2, o2, c2, rfl, h1, cur, h2, h3, h4⟩
  · obtain ⟨v', w', hr, hown, hgr, _, hno⟩ := run_app (P := P) w w.heap.size t ty TI i z 1 8 ht hi hz hsize hby hzs (by decide) (.slice none 0 0) 0 [] (ownsRow_nil _ _ _ _) ⟨g, 0, none⟩ 1 c [.int .u64 (y : Nat)] rfl hnews (by simp [Value.oneCell']) (by unfold maxLen; omega) (by omega) (Nat.le_refl _)
    have hln : Lane TI w' v' ([] ++ [y]) := (Lane.grown (w := w) (ys := [y]) hown).1
    obtain ⟨ad', c', rfl⟩ := hln.form
    exact ⟨ad', c', w', hr, hln, (Upd.refl _ w).grown hgr (fun k _ hk => hk), hno⟩
  · have hcell : ∀ j u, (xs.map fun x => Value.int .u64 (x : Nat))[j]? = some u → w.cell? ((⟨g2, o2, none⟩ : Addr).add j) = some u := fun j u hj => by
      rw [List.getElem?_map] at hj
      cases hx2 : xs[j]? with
      | none => rw [hx2] at hj; cases hj
      | some q => rw [hx2] at hj; obtain rfl := Option.some.inj hj; rw [add_at]; exact h2.cellAt (h4 j q hx2)
    by_cases hr : xs.length + 1 ≤ c2
    · have hrun := run_append_room_cells (P := P) w t ty TI i ht hi g2 o2 xs.length c2 ⟨g, 0, none⟩ 1 c [.int .u64 (y : Nat)] (by rw [hsize]; rfl) hnews (by simp [Value.oneCell']) hr (fun j hj => by
          simp only [List.length_singleton] at hj
          obtain rfl : j = 0 := by omega
          rw [hsize, h2.cell, Array.getElem?_eq_getElem (by omega)]; rfl) (fun j hj => h2.free _)
      have e : w.setCells g2 (o2 + xs.length * i.size) [.int .u64 (y : Nat)] = w.setCell ⟨g2, o2 + xs.length, none⟩ (.int .u64 (y : Nat)) := by rw [hsize, Nat.mul_one]; rfl
      rw [e] at hrun
      exact ⟨some ⟨g2, o2, none⟩, c2, _, hrun, Lane.put (.inr ⟨g2, o2, c2, rfl, h1, cur, h2, h3, h4⟩) hr y ⟨cur, h2, h3⟩, Upd.setCell (S := fun k => (Value.slice (some ⟨g2, o2, none⟩) xs.length c2).ownBlock = some k) (a := ⟨g2, o2 + xs.length, none⟩) (Upd.refl _ _) (fun _ => rfl) _, fun k hk => .inl hk⟩
    · obtain ⟨v', w', hrun, hown, hgr⟩ := run_append_arg_grows (P := P) w t ty TI i z 1 8 ht hi hz hsize hby hzs (by decide) ⟨g2, o2, none⟩ xs.length c2 (xs.map fun x => .int .u64 (x : Nat)) (by simp) hcell ⟨g, 0, none⟩ 1 c [.int .u64 (y : Nat)] rfl hnews (by omega) (by unfold maxLen; omega) (by omega)
      have hln : Lane TI w' v' (xs ++ [y]) ∧ ∀ k, v'.ownBlock = some k → w.heap.size ≤ k := Lane.grown (w := w) (ys := xs ++ [y]) (by rw [List.length_append, List.map_append]; exact hown)
      obtain ⟨ad', c', e⟩ := hln.1.form
      rw [List.length_append, List.length_singleton] at e
      subst e
      exact ⟨ad', c', w', hrun, hln.1, (Upd.refl _ w).grown hgr (fun k _ hk => by cases hk), fun k hk => .inr (hln.2 k hk)⟩
/-- The same, as a step of a region that draws. -/
theorem step_lane {P : Program} {ops : Array Oper} {o : Oper} {a : Act} {K : Act → World → Prop} {Q : Exit → Act → World → Prop} {E : Prop} {w : World} (hgd : o.guard = none) (s x : Operand) (t : TypeId)
    (ho : o.op = .call { callee := .builtin .append, args := #[s, x], argTypes := #[t, t] })
    (TI : TypeId) (i : TypeInfo) (z : Value) (ht : P.underlying t = some (.slice TI)) (hi : P.info? TI = some i) (hz : i.zero = some z) (hsize : i.size = 1) (hby : i.bytes = 8) (hzs : z.cells.size = 1)
    (v : Value) (xs : List Nat) (hs : a.eval s = v) (hl : Lane TI w v xs) (g c y : Nat) (hx : a.eval x = .slice (some ⟨g, 0, none⟩) 1 c) (hy : w.cell? ⟨g, 0, none⟩ = some (.int .u64 (y : Nat))) (hn : xs.length ≤ 65536)
    (h : ∀ ad' c' w', Lane TI w' (.slice ad' (xs.length + 1) c') (xs ++ [y]) → Upd (fun k => v.ownBlock = some k) w w' → OwnOrNew w v (.slice ad' (xs.length + 1) c') → K (a.put o.dst (.slice ad' (xs.length + 1) c')) w') : if Region.wanted o (yielded ops a.tmps) = true then Oper.wp P o a w K Q else E := by
  have hw : Region.wanted o (yielded ops a.tmps) = true := by simp [Region.wanted, hgd]
  rw [if_pos hw]
  obtain ⟨ad', c', w', hr, h1, h2, h3⟩ := run_lane (P := P) t o.type TI i z ht hi hz hsize hby hzs v xs hl g c y hy hn
  unfold Oper.wp execOp
  simp only [ho, resolve, invoke, builtin, Sem.run_bind, Sem.run_pure, Result.andThen_ok, List.map_toArray, List.map_cons, List.map_nil, hs, hx, hr]
  exact h ad' c' w' h1 h2 h3
end Go.Proofs.YtllfloapiliheaaDoor.LU
namespace Go.Proofs.YtllfloapiliheaaDoor.Tree
open Go.RowKit Go.Proofs BigFrame
set_option maxHeartbeats 4000000
set_option maxRecDepth 1000000
abbrev TU64 : TypeId := 31
abbrev TUs : TypeId := 33
theorem infoU64 : (Tryd.prog.info? TU64).map (fun i => (i.zero, i.size, i.bytes)) = some (some (.int .u64 0), 1, 8) := by kernel_rfl
theorem infoUs : (Tryd.prog.info? TUs).map (fun i => (i.zero, i.size, i.bytes)) = some (some (.slice none 0 0), 1, 24) := by kernel_rfl
/-- A slice of numbers, wherever it begins. -/
def laneC (v : Value) (xs : List Nat) : Comp :=
  ⟨fun w o => LU.Lane TU64 w v xs ∧ ∀ k, o k ↔ v.ownBlock = some k, fun h hu hS => ⟨h.1.upd hu (fun k hk => hS k ((h.2 k).2 hk)), h.2⟩, fun h hk => h.1.lt ((h.2 _).1 hk)⟩
def soonC (g K : Nat) (V : Nat → Value) : Comp := rowW TUs 1 (.slice (some ⟨g, 0, none⟩) K K) K ((List.range K).map V)
def nextC (g K : Nat) (N : Nat → Nat) : Comp := rowW TU64 1 (.slice (some ⟨g, 0, none⟩) K K) K ((List.range K).map (fun i => .int .u64 (N i : Nat)))
def paceL (gs gn K : Nat) (V : Nat → Value) (X : Nat → List Nat) (N : Nat → Nat) (C : Comp) : List Comp := [soonC gs K V, nextC gn K N, C] ++ (List.range K).map (fun i => laneC (V i) (X i))
section
variable {w0 w w' : World} {l : List Comp} {gs gn K : Nat} {V : Nat → Value} {X : Nat → List Nat} {N : Nat → Nat} {C : Comp}
theorem range_set {α : Type} (f : Nat → α) (i : Nat) (x : α) (K : Nat) : ((List.range K).map f).set i x = (List.range K).map (up f i x) := by
  apply List.ext_getElem?
  intro j
  rw [List.getElem?_set, List.length_map, List.length_range, List.getElem?_map, List.getElem?_map]
  by_cases e : i = j
  · subst e
    rw [if_pos rfl]
    by_cases h : i < K
    · rw [if_pos h, List.getElem?_range h]; simp [up]
    · rw [if_neg h, List.getElem?_eq_none (by simpa using h)]; rfl
  · rw [if_neg e]
    rcases Nat.lt_or_ge j K with h | h
    · rw [List.getElem?_range h]; simp [up, show ¬ j = i from fun h => e h.symm]
    · rw [List.getElem?_eq_none (by simpa using h)]; rfl
theorem Made.nth (P : List Comp) (f : Nat → Comp) {r : List Nat} {i : Nat} (h : Made w0 w (P ++ r.map f)) (hi : i ∈ r) (hr : r.Nodup) :
    ∃ o, (f i).P w o ∧ (∀ k, o k → w0.heap.size ≤ k) ∧ ∀ (w' : World) (o' : Nat → Prop) (C' : Comp), C'.P w' o' → Fol w o w' o' → Made w0 w' (P ++ r.map (fun k => if k = i then C' else f k)) := by
  obtain ⟨own, h1, h2, h3⟩ := h
  obtain ⟨o, a1, a2, a3⟩ := Sep.nth P f h1 hi hr
  refine ⟨o, a1, fun k hk => h2 k (a2 k hk), fun w' o' C' hC hf => ?_⟩
  obtain ⟨own', b1, b2⟩ := a3 w' o' C' hC hf
  exact ⟨own', b1, fun k hk => (b2.at_ k hk).elim (h2 k) (fun h4 => Nat.le_trans h3.size h4), h3.trans b2.upd (fun k hlt hk => absurd (h2 k hk) (Nat.not_le.2 hlt))⟩
theorem p_soon (Q : List Comp) (h : Made w0 w (Q ++ paceL gs gn K V X N C)) {i : Nat} (hi : i < K) : w.cell? ⟨gs, i, none⟩ = some (V i) ∧ w.frozen? ⟨gs, i, none⟩ = false := by
  obtain ⟨o, h1, _, _⟩ := Made.foc (soonC gs K V) (nextC gn K N :: C :: (List.range K).map (fun i => laneC (V i) (X i))) Q h
  exact rowW_cell h1 (by rw [List.getElem?_map, List.getElem?_range hi]; rfl)
theorem p_next (Q : List Comp) (h : Made w0 w (Q ++ paceL gs gn K V X N C)) {i : Nat} (hi : i < K) : w.cell? ⟨gn, i, none⟩ = some (.int .u64 (N i : Nat)) ∧ w.frozen? ⟨gn, i, none⟩ = false := by
  have h' : Made w0 w ((Q ++ [soonC gs K V]) ++ nextC gn K N :: C :: (List.range K).map (fun i => laneC (V i) (X i))) := by rw [List.append_assoc]; exact h
  obtain ⟨o, h1, _, _⟩ := Made.foc (nextC gn K N) _ _ h'
  exact rowW_cell h1 (by rw [List.getElem?_map, List.getElem?_range hi]; rfl)
theorem p_lane (Q : List Comp) (h : Made w0 w (Q ++ paceL gs gn K V X N C)) {i : Nat} (hi : i < K) : LU.Lane TU64 w (V i) (X i) ∧ (V i).ownBlock ≠ some gs := by
  have h' : Made w0 w ((Q ++ [soonC gs K V, nextC gn K N, C]) ++ (List.range K).map (fun i => laneC (V i) (X i))) := by rw [List.append_assoc]; exact h
  refine ⟨?_, fun e => ?_⟩
  · obtain ⟨o, h1, _, _⟩ := Made.nth _ _ h' (List.mem_range.2 hi) List.nodup_range
    exact h1.1
  · obtain ⟨r1, r2, hr⟩ := List.append_of_mem (List.mem_range.2 hi)
    have h2 : Made w0 w (Q ++ soonC gs K V :: ([nextC gn K N, C] ++ (List.range K).map (fun i => laneC (V i) (X i)))) := h
    have h3 := h2.perm (l' := soonC gs K V :: (Q ++ ([nextC gn K N, C] ++ (List.range K).map (fun i => laneC (V i) (X i))))) List.perm_middle
    rw [hr, List.map_append, List.map_cons] at h3
    obtain ⟨own, ⟨o, o', h4, h5, h6, _⟩, _⟩ := h3
    rw [← List.append_assoc, ← List.append_assoc] at h5
    obtain ⟨o2, h7, h8, _⟩ := Sep.foc (laneC (V i) (X i)) _ _ h5
    exact h6 gs ((h4.2 gs).2 rfl) (h8 gs ((h7.2 gs).2 e))
theorem lanes_up (i : Nat) (v : Value) (xs : List Nat) : (fun k => if k = i then laneC v xs else laneC (V k) (X k)) = fun k => laneC (up V i v k) (up X i xs k) := funext fun k => by
  unfold up
  split <;> rfl
/-- A lane is turned, and its slice is laid into the row. -/
theorem p_turn (Q : List Comp) (h : Made w0 w (Q ++ paceL gs gn K V X N C)) {i : Nat} (hi : i < K) {wx : World} {v : Value} {xs : List Nat} (hx : Upd Nowhere w wx) (hu : Upd (fun k => (V i).ownBlock = some k) wx w') (hn : OwnOrNew wx (V i) v) (hl : LU.Lane TU64 w' v xs) :
    Made w0 (w'.setCell ⟨gs, i, none⟩ v) (Q ++ paceL gs gn K (up V i v) (up X i xs) N C) := by
  have h' : Made w0 w ((Q ++ [soonC gs K V, nextC gn K N, C]) ++ (List.range K).map (fun i => laneC (V i) (X i))) := by rw [List.append_assoc]; exact h
  obtain ⟨o, h1, _, h3⟩ := Made.nth _ _ h' (List.mem_range.2 hi) List.nodup_range
  have h4 := h3 w' (fun k => v.ownBlock = some k) (laneC v xs) ⟨hl, fun _ => Iff.rfl⟩ ⟨fun k hk => (hn k hk).imp (fun h9 => (h1.2 k).2 h9) (fun h9 => Nat.le_trans hx.size h9), (hx.any _).trans hu (fun k _ hk => (h1.2 k).2 hk)⟩
  rw [lanes_up, List.append_assoc] at h4
  have h5 : Made w0 w' (Q ++ soonC gs K V :: nextC gn K N :: C :: (List.range K).map (fun k => laneC (up V i v k) (up X i xs k))) := h4
  obtain ⟨o2, a1, _, a3⟩ := Made.foc _ _ _ h5
  obtain ⟨b1, b2⟩ := rowW_set a1 i v
  rw [range_set] at b1
  exact a3 _ o2 (soonC gs K (up V i v)) b1 b2
theorem p_push (Q : List Comp) (h : Made w0 w (Q ++ paceL gs gn K V X N C)) {i : Nat} (hi : i < K) {v0 : Value} (hv : V i = v0) {wx : World} {v : Value} {xs : List Nat} (hx : Upd Nowhere w wx) (hl : LU.Lane TU64 w' v xs) (hu : Upd (fun k => v0.ownBlock = some k) wx w') (hn : OwnOrNew wx v0 v) :
    Made w0 (w'.setCell ⟨gs, i, none⟩ v) (Q ++ paceL gs gn K (up V i v) (up X i xs) N C) ∧ w'.cell? ⟨gs, i, none⟩ = some v0 ∧ w'.frozen? ⟨gs, i, none⟩ = false := by
  subst hv
  obtain ⟨c0, c1⟩ := p_soon Q h hi
  have hne := (p_lane Q h hi).2
  have hlt : gs < w.heap.size := cell_lt c0
  have hlx : gs < wx.heap.size := Nat.lt_of_lt_of_le hlt hx.size
  refine ⟨p_turn Q h hi hx hu hn hl, ?_, ?_⟩
  · rw [hu.cell i hlx hne, hx.cell i hlt id]; exact c0
  · rw [hu.frozen i hlx hne, hx.frozen i hlt id]; exact c1
theorem p_nset (Q : List Comp) (h : Made w0 w (Q ++ paceL gs gn K V X N C)) (i x : Nat) : Made w0 (w.setCell ⟨gn, i, none⟩ (.int .u64 (x : Nat))) (Q ++ paceL gs gn K V X (up N i x) C) := by
  have h' : Made w0 w ((Q ++ [soonC gs K V]) ++ nextC gn K N :: C :: (List.range K).map (fun i => laneC (V i) (X i))) := by rw [List.append_assoc]; exact h
  obtain ⟨o, h1, _, h3⟩ := Made.foc (nextC gn K N) _ _ h'
  obtain ⟨a1, a2⟩ := rowW_set h1 i (.int .u64 (x : Nat))
  rw [range_set] at a1
  have e : up (fun i => Value.int .u64 ((N i : Nat) : Int)) i (.int .u64 (x : Nat)) = fun j => .int .u64 (up N i x j : Nat) := funext fun j => by
    unfold up; split <;> rfl
  rw [e] at a1
  have h4 := h3 _ o (nextC gn K (up N i x)) a1 a2
  rw [List.append_assoc] at h4
  exact h4
theorem p_tree (Q : List Comp) (h : Made w0 w (Q ++ paceL gs gn K V X N C)) : Made w0 w ((Q ++ [soonC gs K V, nextC gn K N]) ++ C :: (List.range K).map (fun i => laneC (V i) (X i))) := by rw [List.append_assoc]; exact h
theorem p_tree' (Q : List Comp) (h : Made w0 w ((Q ++ [soonC gs K V, nextC gn K N]) ++ C :: (List.range K).map (fun i => laneC (V i) (X i)))) : Made w0 w (Q ++ paceL gs gn K V X N C) := by rw [List.append_assoc] at h; exact h
theorem lanes_start (h : Made w0 w l) : ∀ r : List Nat, Made w0 w (r.map (fun _ => laneC (.slice none 0 0) []) ++ l)
  | [] => h
  | _ :: r => (lanes_start h r).more (C := laneC (.slice none 0 0) []) (o := fun _ => False) ⟨.inl ⟨rfl, rfl⟩, fun k => ⟨fun h => h.elim, fun h => by simp [Value.ownBlock] at h⟩⟩ (fun _ h => h.elim) (Upd.refl _ _)
/-- The rows, as they are made. -/
theorem p_made {gs0 gn0 : Nat} {csS csN : Array Value} {w1 : World} (h : Made w0 w [C]) (hu : Upd Nowhere w w1) (hs : Blk w1 gs csS TUs) (hn : Blk w1 gn csN TU64) (hsz : csS.size = K) (hnz : csN.size = K) (hs0 : ∀ i, i < K → csS[i]? = some (.slice none 0 0)) (hn0 : ∀ i, i < K → csN[i]? = some (.int .u64 0)) (hne : gs ≠ gn) (hgs : w.heap.size ≤ gs) (hgn : w.heap.size ≤ gn) (_ : gs0 = gn0) (hK : K ≤ 1000) :
    Made w0 w1 (paceL gs gn K (fun _ => .slice none 0 0) (fun _ => []) (fun _ => 0) C) := by
  have e1 : csS.toList = (List.range K).map (fun _ => Value.slice none 0 0) := by
    apply List.ext_getElem?
    intro j
    rcases Nat.lt_or_ge j K with h | h
    · rw [List.getElem?_map, List.getElem?_range h, Array.getElem?_toList, hs0 j h]; rfl
    · rw [List.getElem?_eq_none (by simp; omega), List.getElem?_eq_none (by simpa using h)]
  have e2 : csN.toList = (List.range K).map (fun _ => Value.int .u64 ((0 : Nat) : Int)) := by
    apply List.ext_getElem?
    intro j
    rcases Nat.lt_or_ge j K with h | h
    · rw [List.getElem?_map, List.getElem?_range h, Array.getElem?_toList, hn0 j h]; rfl
    · rw [List.getElem?_eq_none (by simp; omega), List.getElem?_eq_none (by simpa using h)]
  have hmax : K ≤ maxLen := by unfold maxLen; omega
  have r1 : (soonC gs K (fun _ => .slice none 0 0)).P w1 (fun k => k = gs) := ⟨⟨by simp, .inr ⟨gs, K, csS, rfl, Nat.zero_le _, hs, Nat.le_refl _, hmax, by simpa using hsz, by rw [← e1]; exact List.take_of_length_le (by simp; omega)⟩⟩, fun k => ⟨fun h => by rw [h]; rfl, fun h => (Option.some.inj h).symm⟩⟩
  have r2 : (nextC gn K (fun _ => 0)).P w1 (fun k => k = gn) := ⟨⟨by simp, .inr ⟨gn, K, csN, rfl, Nat.zero_le _, hn, Nat.le_refl _, hmax, by simpa using hnz, by rw [← e2]; exact List.take_of_length_le (by simp; omega)⟩⟩, fun k => ⟨fun h => by rw [h]; rfl, fun h => (Option.some.inj h).symm⟩⟩
  obtain ⟨own, h1, h2, h3⟩ := h
  have m1 : Made w0 w1 [soonC gs K (fun _ => .slice none 0 0), nextC gn K (fun _ => 0), C] := by
    refine ⟨fun k => k = gs ∨ (k = gn ∨ own k), ⟨_, _, r1, ⟨_, _, r2, h1.old hu, fun k hk h9 => ?_, fun _ => Iff.rfl⟩, fun k hk h9 => ?_, fun _ => Iff.rfl⟩, fun k hk => ?_, h3.trans hu (fun _ _ h => h)⟩
    · subst hk; have := h1.lt h9; omega
    · subst hk
      rcases h9 with h9 | h9
      · exact hne h9
      · have := h1.lt h9; omega
    · rcases hk with rfl | rfl | hk
      · exact Nat.le_trans h3.size hgs
      · exact Nat.le_trans h3.size hgn
      · exact h2 k hk
  exact (lanes_start m1 (List.range K)).perm List.perm_append_comm
end
end Go.Proofs.YtllfloapiliheaaDoor.Tree
