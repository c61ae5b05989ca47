/- TreeKeeps0, TreeKeeps1, TreeKeeps2, TreeKeeps3, TreeKeeps4, one behind the other. -/
import Derived.Test.YtllfloapiliheaaDoorMTreeAB
import Derived.Test.YtllfloapiliheaaDoorMTreeLe
import Derived.Deep.DeepCutAuto
import Derived.Test.YtllfloapiliheaaDoorSat3
import Derived.Test.YtllfloapiliheaaDoorKeep
import Derived.Laws.EntriesVeiled
namespace Go.Proofs.YtllfloapiliheaaDoor.Tree
open HeapE (El)
open WheelR (Ri)
open Cal (ins Rises ins_mem ins_len ins_rises ins_behind)
section
variable {sh : Sh} {s : TS} {room : Nat}
/-- Coming up turns no leaf but the one it began at. -/
theorem come_leafq (hs : sh.Ok) : ∀ (f : Nat) {s : TS} {t i : Nat} {e : El} {b : Nat}, i < sh.n → ∀ u, sh.leaf u = true → u ≠ i → (come sh f s t i e b).q u = s.q u
  | 0, _, _, _, _, _, _, _, _, _ => rfl
  | f + 1, s, t, i, e, b, hi, u, hu, hne => by
    unfold come
    by_cases h0 : i = 0
    · rw [if_pos h0, entered_q, up_off _ hne]
    · rw [if_neg h0]
      have h4 := hs.inner hi h0
      by_cases hg : sh.gap i = 0
      · rw [if_pos hg, come_leafq hs f h4.1 u hu (fun h => by rw [h, h4.2] at hu; cases hu), entered_q, up_off _ hne]
      · rw [if_neg hg]
        show (entered sh s i e b).q u = _
        rw [entered_q, up_off _ hne]
theorem come_own (hs : sh.Ok) (f : Nat) {t i : Nat} {e : El} {b : Nat} (hi : i < sh.n) (hl : sh.leaf i = true) : (come sh (f + 1) s t i e b).q i = ins (rk sh s i e) e (s.q i) := by
  unfold come
  by_cases h0 : i = 0
  · rw [if_pos h0, entered_q, up_at]
  · rw [if_neg h0]
    have h4 := hs.inner hi h0
    by_cases hg : sh.gap i = 0
    · rw [if_pos hg, come_leafq hs f h4.1 i hl (fun h => by rw [← h, hl] at h4; exact absurd h4.2 (by simp)), entered_q, up_at]
    · rw [if_neg hg]
      show (entered sh s i e b).q i = _
      rw [entered_q, up_at]
theorem rise1_leafq (hs : sh.Ok) (h : Bal sh s 0) (u : Nat) (hu : sh.leaf u = true) : (rise1 sh s).q u = s.q u := by
  rcases due_or h with hst | ⟨t, v, b, r, hH, ht⟩
  · rw [rise1_still hst]
  · obtain ⟨g1, _⟩ := rise1_some hs h hH ht
    obtain ⟨_, _, _, _, hv, hv0, _⟩ := headless h hH
    have h4 := hs.inner hv hv0
    rw [g1, come_leafq hs 32 h4.1 u hu (fun h => by rw [h, h4.2] at hu; cases hu)]
theorem rises_leafq (hs : sh.Ok) : ∀ (k : Nat) {s : TS}, Bal sh s 0 → ∀ u, sh.leaf u = true → (rises sh k s).q u = s.q u
  | 0, _, _, _, _ => rfl
  | k + 1, s, h, u, hu => by
    unfold rises
    rcases due_or h with hst | ⟨t, v, b, r, hH, ht⟩
    · rw [rise1_still hst]; exact rises_leafq hs k h u hu
    · rw [rises_leafq hs k (rise1_some hs h hH ht).2.2.2.2.1 u hu, rise1_leafq hs h u hu]
theorem pass_leafq (hs : sh.Ok) (h : Bal sh s 0) {t : Nat} (ht : t ≤ 18446744073709551615) (u : Nat) (hu : sh.leaf u = true) : (pass sh s t).q u = s.q u := by
  unfold pass
  exact rises_leafq hs _ (later_bal h ht) u hu
/-- Down to a leaf: its first packet leaves. -/
theorem down_leaf (hs : sh.Ok) : ∀ (f : Nat) {s : TS} {x : Nat}, sh.n ≤ f + x → Bal sh s x → x < sh.n → s.q x ≠ [] →
    ∃ v r e t, v < sh.n ∧ sh.leaf v = true ∧ s.q v = (r, e) :: t ∧ (down sh f s x).1 = e ∧ ∀ u, sh.leaf u = true → (down sh f s x).2.q u = if u = v then t else s.q u
  | 0, _, _, h0, _, hx, _ => absurd hx (by omega)
  | f + 1, s, x, hf, h, hx, hq => by
    cases he : s.q x with
    | nil => exact absurd he hq
    | cons a t =>
      obtain ⟨r, e⟩ := a
      obtain ⟨h1, h2⟩ := taken hs h hx he
      cases hl : sh.leaf x with
      | true =>
        have e1 : down sh (f + 1) s x = (e, { s with q := up s.q x t }) := by
          simp only [down, he]; rw [if_pos hl]
        refine ⟨x, r, e, t, hx, hl, he, by rw [e1], fun u _ => ?_⟩
        rw [e1]
        rfl
      | false =>
        obtain ⟨c, hc, hlt, hcp, rfl, hne, hb, hr⟩ := h2 hl
        have e1 : down sh (f + 1) s x = down sh f (stepped sh s x r t) c := by
          simp only [down, he]; rw [if_neg (by rw [hl]; exact Bool.false_ne_true)]
          unfold stepped
          have e2 : (chi c).1.toNat = c := Int.toNat_natCast c
          rw [e2]
        obtain ⟨g1, g2⟩ := stepped_gone (sh := sh) (s := s) x r t
        have hb2 : Bal sh (stepped sh s x r t) c := by
          unfold stepped
          split
          · exact vi_bal hb x hr
          · exact hb
        obtain ⟨v, r', e', t', a1, a2, a3, a4, a5⟩ := down_leaf hs f (s := stepped sh s x r t) (x := c) (by omega) hb2 hc (by rw [g2, up_off _ (by omega)]; exact hne)
        have hvx : v ≠ x := fun h => by rw [h, hl] at a2; cases a2
        rw [g2, up_off _ hvx] at a3
        refine ⟨v, r', e', t', a1, a2, a3, by rw [e1]; exact a4, fun u hu => ?_⟩
        rw [e1, a5 u hu, g2, up_off _ (fun h => by rw [h, hl] at hu; cases hu)]
/-- What the law knows: where each packet is, and which one of a leaf left last. -/
structure Kp (sh : Sh) (s : TS) (lf : List Int) (last : Nat → Nat) : Prop where
  own : ∀ v, v < sh.n → sh.leaf v = true → ∀ a ∈ s.q v, ∃ at_, a.2.2.2.1 = at_ + 1 ∧ lf[at_]? = some (v : Int)
  nod : ∀ v, v < sh.n → sh.leaf v = true → (s.q v).Pairwise (fun a b => a.2.2.2.1 ≠ b.2.2.2.1)
  fst : ∀ v, v < sh.n → sh.leaf v = true → sh.kind v = 1 → (∀ a ∈ s.q v, a.1 = 0) ∧ (s.q v).Pairwise (fun a b => a.2.2.2.1 < b.2.2.2.1) ∧ ∀ a ∈ s.q v, last v + 1 ≤ a.2.2.2.1
variable {lf : List Int} {last : Nat → Nat}
theorem Kp.same (h : Kp sh s lf last) {s' : TS} (hq : ∀ u, sh.leaf u = true → s'.q u = s.q u) : Kp sh s' lf last :=
  ⟨fun v hv hl a ha => h.own v hv hl a (by rw [← hq v hl]; exact ha), fun v hv hl => by rw [hq v hl]; exact h.nod v hv hl, fun v hv hl hk => by rw [hq v hl]; exact h.fst v hv hl hk⟩
theorem ins_pair {α : Type} {R : Nat × α → Nat × α → Prop} {r : Nat} {x : α} : ∀ {l : List (Nat × α)}, l.Pairwise R → (∀ a ∈ l, R a (r, x) ∧ R (r, x) a) → (ins r x l).Pairwise R
  | [], _, _ => List.pairwise_singleton ..
  | a :: l, h, hx => by
    have h2 := List.pairwise_cons.1 h
    unfold ins
    split
    · exact List.pairwise_cons.2 ⟨fun b hb => (hx b hb).2, h⟩
    · refine List.pairwise_cons.2 ⟨fun b hb => ?_, ins_pair h2.2 (fun b hb => hx b (List.mem_cons_of_mem _ hb))⟩
      rcases ins_mem.1 hb with rfl | hb
      · exact (hx a (List.mem_cons_self ..)).1
      · exact h2.1 b hb
/-- A packet comes in. -/
theorem Kp.push (h : Kp sh s lf last) {i : Nat} {s' : TS} {p : Nat × Nat × Nat} (hid : p.2.1 = lf.length + 1) (hlast : last i ≤ lf.length) (hi : i < sh.n) (hl : sh.leaf i = true) (hr0 : sh.kind i = 1 → rk sh s i ((0 : Int), p) = 0)
    (hq : ∀ u, sh.leaf u = true → s'.q u = if u = i then ins (rk sh s i ((0 : Int), p)) ((0 : Int), p) (s.q i) else s.q u) : Kp sh s' (lf ++ [(i : Int)]) last := by
  have hold : ∀ v at_, lf[at_]? = some (v : Int) → at_ < lf.length := fun v at_ h9 => by
    rcases Nat.lt_or_ge at_ lf.length with h' | h'
    · exact h'
    · rw [List.getElem?_eq_none h'] at h9; cases h9
  have hlt : ∀ v, v < sh.n → sh.leaf v = true → ∀ a ∈ s.q v, a.2.2.2.1 ≤ lf.length := fun v hv hlv a ha => by
    obtain ⟨at_, h1, h2⟩ := h.own v hv hlv a ha
    have := hold v at_ h2
    omega
  refine ⟨fun v hv hlv a ha => ?_, fun v hv hlv => ?_, fun v hv hlv hk => ?_⟩
  · rw [hq v hlv] at ha
    have hgen : a ∈ s.q v → ∃ at_, a.2.2.2.1 = at_ + 1 ∧ (lf ++ [(i : Int)])[at_]? = some (v : Int) := fun ha => by
      obtain ⟨at_, h1, h2⟩ := h.own v hv hlv a ha
      exact ⟨at_, h1, by rw [List.getElem?_append_left (hold v at_ h2)]; exact h2⟩
    by_cases e : v = i
    · subst e
      rw [if_pos rfl] at ha
      rcases ins_mem.1 ha with rfl | ha
      · exact ⟨lf.length, hid, by rw [List.getElem?_append_right (Nat.le_refl _)]; simp⟩
      · exact hgen ha
    · rw [if_neg e] at ha
      exact hgen ha
  · rw [hq v hlv]
    by_cases e : v = i
    · subst e
      rw [if_pos rfl]
      refine ins_pair (h.nod v hv hlv) (fun a ha => ?_)
      have := hlt v hv hlv a ha
      exact ⟨by show a.2.2.2.1 ≠ p.2.1; omega, by show p.2.1 ≠ a.2.2.2.1; omega⟩
    · rw [if_neg e]; exact h.nod v hv hlv
  · rw [hq v hlv]
    by_cases e : v = i
    · subst e
      rw [if_pos rfl, hr0 hk]
      obtain ⟨h1, h2, h3⟩ := h.fst v hv hlv hk
      have he : ins 0 ((0 : Int), p) (s.q v) = s.q v ++ [(0, ((0 : Int), p))] := by
        have := ins_behind (r := 0) (x := ((0 : Int), p)) (A := s.q v) (B := []) (fun a ha => by rw [h1 a ha]; exact Nat.le_refl _)
        rw [List.append_nil] at this
        exact this
      rw [he]
      refine ⟨fun a ha => ?_, ?_, fun a ha => ?_⟩
      · rcases List.mem_append.1 ha with ha | ha
        · exact h1 a ha
        · rw [List.mem_singleton] at ha; subst ha; rfl
      · refine List.pairwise_append.2 ⟨h2, List.pairwise_singleton .., fun a ha b hb => ?_⟩
        rw [List.mem_singleton] at hb; subst hb
        have := hlt v hv hlv a ha
        show a.2.2.2.1 < p.2.1
        omega
      · rcases List.mem_append.1 ha with ha | ha
        · exact h3 a ha
        · rw [List.mem_singleton] at ha; subst ha
          show last v + 1 ≤ p.2.1
          omega
    · rw [if_neg e]; exact h.fst v hv hlv hk
/-- A packet leaves. -/
theorem Kp.pop (h : Kp sh s lf last) {v r : Nat} {e : El} {t : List (Nat × El)} {s' : TS} (hv : v < sh.n) (hl : sh.leaf v = true) (hqv : s.q v = (r, e) :: t) (hq : ∀ u, sh.leaf u = true → s'.q u = if u = v then t else s.q u) :
    ∃ at_, e.2.2.1 = at_ + 1 ∧ lf[at_]? = some (v : Int) ∧ (sh.kind v = 1 → last v ≤ at_) ∧ Kp sh s' (lf.set at_ (-1)) (up last v at_) := by
  obtain ⟨at_, h1, h2⟩ := h.own v hv hl (r, e) (by rw [hqv]; exact List.mem_cons_self ..)
  have h1 : e.2.2.1 = at_ + 1 := h1
  have hlt : at_ < lf.length := by
    rcases Nat.lt_or_ge at_ lf.length with h' | h'
    · exact h'
    · rw [List.getElem?_eq_none h'] at h2; cases h2
  have hnod := h.nod v hv hl
  rw [hqv] at hnod
  have hnod2 := List.pairwise_cons.1 hnod
  refine ⟨at_, h1, h2, fun hk => ?_, fun u hu hlu a ha => ?_, fun u hu hlu => ?_, fun u hu hlu hk => ?_⟩
  · have := (h.fst v hv hl hk).2.2 (r, e) (by rw [hqv]; exact List.mem_cons_self ..)
    have : last v + 1 ≤ e.2.2.1 := this
    omega
  · rw [hq u hlu] at ha
    by_cases e9 : u = v
    · subst e9
      rw [if_pos rfl] at ha
      obtain ⟨at2, h3, h4⟩ := h.own u hu hlu a (by rw [hqv]; exact List.mem_cons_of_mem _ ha)
      have hne : at2 ≠ at_ := fun h9 => hnod2.1 a ha (by show e.2.2.1 = a.2.2.2.1; omega)
      exact ⟨at2, h3, by rw [List.getElem?_set, if_neg (fun h => hne h.symm)]; exact h4⟩
    · rw [if_neg e9] at ha
      obtain ⟨at2, h3, h4⟩ := h.own u hu hlu a ha
      have hne : at2 ≠ at_ := fun h9 => by
        rw [h9, h2] at h4
        exact e9 (by have := Option.some.inj h4; omega)
      exact ⟨at2, h3, by rw [List.getElem?_set, if_neg (fun h => hne h.symm)]; exact h4⟩
  · rw [hq u hlu]
    by_cases e9 : u = v
    · rw [if_pos e9]; exact hnod2.2
    · rw [if_neg e9]; exact h.nod u hu hlu
  · rw [hq u hlu]
    by_cases e9 : u = v
    · subst e9
      rw [if_pos rfl, up_at]
      obtain ⟨h3, h4, h5⟩ := h.fst u hu hlu hk
      rw [hqv] at h3 h4 h5
      have h6 := List.pairwise_cons.1 h4
      refine ⟨fun a ha => h3 a (List.mem_cons_of_mem _ ha), h6.2, fun a ha => ?_⟩
      have := h6.1 a ha
      have : e.2.2.1 < a.2.2.2.1 := this
      omega
    · rw [if_neg e9, up_off _ e9]; exact h.fst u hu hlu hk
end
end Go.Proofs.YtllfloapiliheaaDoor.Tree
namespace Go.Proofs.YtllfloapiliheaaDoor.Tree
open Go.RowKit Go.Proofs BigFrame
open HeapE (El)
set_option maxHeartbeats 4000000
set_option maxRecDepth 1000000
section
variable {sh : Sh} {s : TS} {room : Nat} {lf : List Int} {last : Nat → Nat}
/-- What a Push tells. -/
theorem push_tells (hs : sh.Ok) (hg : Good sh room s) (h : Kp sh s lf last) (hlast : ∀ v, last v ≤ lf.length) {t : Nat} (ht : t ≤ 18446744073709551615) (leaf : Int) (fl len : Nat) (hfl : fl < 4294967296) (hid : lf.length + 1 < 4294967296) :
    ∃ v s', push sh room s t leaf (fl, lf.length + 1, len) = (v, s') ∧ ((v ≠ 0 ∧ Kp sh s' lf last ∧ s'.m = s.m) ∨ (v = 0 ∧ 0 ≤ leaf ∧ leaf < sh.n ∧ Kp sh s' (lf ++ [leaf]) last ∧ s'.m = s.m + 1)) := by
  have h1 := pass_good hs hg ht
  have hm1 := (pass_bal hs hg.bal ht).2.2.2.1
  have hk1 : Kp sh (pass sh s t) lf last := h.same (fun u hu => pass_leafq hs hg.bal ht u hu)
  unfold push
  simp only
  by_cases hl : leaf < 0 ∨ (sh.n : Int) ≤ leaf
  · rw [if_pos hl]; exact ⟨_, _, rfl, .inl ⟨by omega, hk1, hm1⟩⟩
  · rw [if_neg hl]
    obtain ⟨i, rfl⟩ : ∃ i : Nat, leaf = i := ⟨leaf.toNat, by omega⟩
    rw [Int.toNat_natCast]
    have hi : i < sh.n := by omega
    by_cases hlf : sh.leaf i = false
    · rw [if_pos hlf]; exact ⟨_, _, rfl, .inl ⟨by omega, hk1, hm1⟩⟩
    · rw [if_neg hlf]
      have hl2 : sh.leaf i = true := by revert hlf; cases sh.leaf i <;> simp
      by_cases hc : len = 0 ∨ 65535 < len
      · rw [if_pos hc]; exact ⟨_, _, rfl, .inl ⟨by omega, hk1, hm1⟩⟩
      · rw [if_neg hc]
        by_cases hm : room ≤ (pass sh s t).m
        · rw [if_pos hm]; exact ⟨_, _, rfl, .inl ⟨by omega, hk1, hm1⟩⟩
        · rw [if_neg hm]
          obtain ⟨g1, g2, g3, g4⟩ := came_good hs h1 hi hl2 (e := ((0 : Int), fl, lf.length + 1, len)) ⟨rfl, hfl, hid, by show len ≤ 65535; omega⟩ (by omega)
          have hnw2 := h1.bal.now.2
          have hpq := fun u hu => pass_leafq hs g3.bal hnw2 u hu
          have hpm := (pass_bal hs g3.bal hnw2).2.2.2.1
          have hle := hs.le
          refine ⟨_, _, rfl, .inr ⟨rfl, by omega, by omega, ?_, ?_⟩⟩
          · refine hk1.push (i := i) (p := (fl, lf.length + 1, len)) rfl (hlast i) hi hl2 (fun hk => by unfold rk; rw [if_pos hk]) (fun u hu => ?_)
            refine (hpq u hu).trans ?_
            by_cases e : u = i
            · subst e
              rw [if_pos rfl]
              exact come_own hs 31 hi hl2
            · rw [if_neg e]
              exact come_leafq hs 32 hi u hu e
          · refine hpm.trans (g4.m.trans ?_)
            show (pass sh s t).m + 1 = s.m + 1
            rw [hm1]
/-- What a Pop tells. -/
theorem pop_tells (hs : sh.Ok) (hg : Good sh room s) (h : Kp sh s lf last) {t : Nat} (ht : t ≤ 18446744073709551615) :
    ∃ p v s', pop sh s t = (p, v, s') ∧ ((v ≠ 0 ∧ (v = 18 ↔ s.m = 0) ∧ (t = 18446744073709551615 → s.m = 0) ∧ Kp sh s' lf last ∧ s'.m = s.m) ∨
      (v = 0 ∧ 0 < s.m ∧ s'.m = s.m - 1 ∧ ∃ at_ u : Nat, p.2.1 = at_ + 1 ∧ lf[at_]? = some (u : Int) ∧ u < sh.n ∧ (sh.kind u = 1 → last u ≤ at_) ∧ Kp sh s' (lf.set at_ (-1)) (up last u at_))) := by
  have h1 := pass_good hs hg ht
  obtain ⟨_, hst, hn1, hm1, _⟩ := pass_bal hs hg.bal ht
  have hk1 : Kp sh (pass sh s t) lf last := h.same (fun u hu => pass_leafq hs hg.bal ht u hu)
  unfold pop
  simp only
  by_cases hm : (pass sh s t).m = 0
  · rw [if_pos hm]
    exact ⟨_, _, _, rfl, .inl ⟨by omega, ⟨fun _ => by omega, fun _ => rfl⟩, fun _ => by omega, hk1, hm1⟩⟩
  · rw [if_neg hm]
    by_cases hq : (pass sh s t).q 0 = []
    · rw [if_pos hq]
      refine ⟨_, _, _, rfl, .inl ⟨by omega, ⟨fun h => by omega, fun h => by omega⟩, fun hT => ?_, hk1, hm1⟩⟩
      exfalso
      have hH : (pass sh s t).H = [] := by
        cases hH : (pass sh s t).H with
        | nil => rfl
        | cons a r =>
          have h9 := hst a (by rw [hH]; exact List.mem_cons_self ..)
          have h8 := (h1.bal.hn a (by rw [hH]; exact List.mem_cons_self ..)).2.2.2.2
          rw [hn1] at h9
          omega
      have h7 := h1.tot
      unfold Tot at h7
      rw [hq, hH] at h7
      simp at h7
      exact hm h7
    · rw [if_neg hq]
      have hle := hs.le
      obtain ⟨v, r, e, tl, a1, a2, a3, a4, a5⟩ := down_leaf hs 32 (s := { pass sh s t with m := (pass sh s t).m - 1 }) (x := 0) (by omega) (m_bal h1.bal _) hs.pos hq
      have a6 := (down_bal hs 32 (s := { pass sh s t with m := (pass sh s t).m - 1 }) (x := 0) (by omega) (m_bal h1.bal _) hs.pos hq).2.2.1.m
      obtain ⟨at_, b1, b2, b3, b4⟩ := hk1.pop (s' := (down sh 32 { pass sh s t with m := (pass sh s t).m - 1 } 0).2) a1 a2 a3 a5
      refine ⟨_, _, _, rfl, .inr ⟨rfl, by omega, ?_, at_, v, ?_, b2, a1, b3, b4⟩⟩
      · refine a6.trans ?_
        show (pass sh s t).m - 1 = _
        rw [hm1]
      · show (down sh 32 { pass sh s t with m := (pass sh s t).m - 1 } 0).1.2.2.1 = _
        rw [a4]; exact b1
end
end Go.Proofs.YtllfloapiliheaaDoor.Tree
namespace Go.Proofs.YtllfloapiliheaaDoor.Tree
open Go.RowKit Go.Proofs BigFrame
set_option maxHeartbeats 4000000
set_option maxRecDepth 1000000
abbrev TIs : TypeId := 32
abbrev TNs : TypeId := 29
def keepL (tb nb lb db sb gl K : Nat) (lfv ndv : Value) (L : Lay) (sh : Sh) (n : Nat) (lf : List Int) (la : List Nat) (s : TS) (c : Nat) : List Comp :=
  [blkC tb #[.pointer (some ⟨L.b, 0, none⟩)] TPt, blkC nb #[.int .i64 (n : Nat)] TI64, blkC lb #[lfv] TIs, rowW TI64 1 lfv lf.length (lf.map (fun x => .int .i64 x)), blkC db #[ndv] TNs, blkC sb #[.slice (some ⟨gl, 0, none⟩) K K] TIs, intC gl K la, treeC L sh 100 s c]
section
variable {w0 w w' : World} {Q : List Comp} {tb nb lb db sb gl K n c : Nat} {lfv ndv : Value} {L : Lay} {sh : Sh} {lf : List Int} {la : List Nat} {s s' : TS}
theorem Made.at_ {A B : List Comp} {C : Comp} (Q : List Comp) (h : Made w0 w (Q ++ (A ++ C :: B))) :
    ∃ o, C.P w o ∧ (∀ k, o k → w0.heap.size ≤ k) ∧ ∀ (w' : World) (o' : Nat → Prop) (C' : Comp), C'.P w' o' → Fol w o w' o' → Made w0 w' (Q ++ (A ++ C' :: B)) := by
  rw [← List.append_assoc] at h
  obtain ⟨o, h1, h2, h3⟩ := Made.foc _ _ _ h
  refine ⟨o, h1, h2, fun w' o' C' hC hf => ?_⟩
  have h4 := h3 w' o' C' hC hf
  rw [List.append_assoc] at h4
  exact h4
theorem blk_set {b : Nat} {v u : Value} {t : TypeId} {o : Nat → Prop} (h : (blkC b #[v] t).P w o) : (blkC b #[u] t).P (w.setCell ⟨b, 0, none⟩ u) o ∧ Fol w o (w.setCell ⟨b, 0, none⟩ u) o :=
  ⟨⟨by simpa using h.1.set 0 u, h.2⟩, ⟨fun k hk => .inl hk, Upd.setCell (S := o) (Upd.refl _ _) (fun _ => (h.2 b).2 rfl) u⟩⟩
theorem sep_apart {C D : Comp} {B R : List Comp} : ∀ (A : List Comp) {own : Nat → Prop}, Sep w (A ++ C :: (B ++ D :: R)) own → ∃ oC oD, C.P w oC ∧ D.P w oD ∧ ∀ k, oC k → ¬ oD k
  | [], _, ⟨o, o', h1, h2, h3, _⟩ => by
    obtain ⟨oD, a1, a2, _⟩ := Sep.foc D R B h2
    exact ⟨o, oD, h1, a1, fun k hk h9 => h3 k hk (a2 k h9)⟩
  | _ :: A, _, ⟨_, _, _, h2, _⟩ => sep_apart A h2
theorem k_apart {g cp : Nat} (h : Made w0 w (Q ++ keepL tb nb lb db sb gl K (.slice (some ⟨g, 0, none⟩) lf.length cp) ndv L sh n lf la s c)) : g ≠ gl ∧ g ≠ sb ∧ lb ≠ gl := by
  obtain ⟨own, h1, _⟩ := h
  have h2 : Sep w ((Q ++ [blkC tb #[.pointer (some ⟨L.b, 0, none⟩)] TPt, blkC nb #[.int .i64 (n : Nat)] TI64, blkC lb #[.slice (some ⟨g, 0, none⟩) lf.length cp] TIs]) ++ rowW TI64 1 (.slice (some ⟨g, 0, none⟩) lf.length cp) lf.length (lf.map (fun x => .int .i64 x)) :: ([blkC db #[ndv] TNs, blkC sb #[.slice (some ⟨gl, 0, none⟩) K K] TIs] ++ intC gl K la :: [treeC L sh 100 s c])) own := by
    rw [List.append_assoc]; exact h1
  have h3 : Sep w ((Q ++ [blkC tb #[.pointer (some ⟨L.b, 0, none⟩)] TPt, blkC nb #[.int .i64 (n : Nat)] TI64, blkC lb #[.slice (some ⟨g, 0, none⟩) lf.length cp] TIs]) ++ rowW TI64 1 (.slice (some ⟨g, 0, none⟩) lf.length cp) lf.length (lf.map (fun x => .int .i64 x)) :: ([blkC db #[ndv] TNs] ++ blkC sb #[.slice (some ⟨gl, 0, none⟩) K K] TIs :: [intC gl K la, treeC L sh 100 s c])) own := by
    rw [List.append_assoc]; exact h1
  have h4 : Sep w ((Q ++ [blkC tb #[.pointer (some ⟨L.b, 0, none⟩)] TPt, blkC nb #[.int .i64 (n : Nat)] TI64]) ++ blkC lb #[.slice (some ⟨g, 0, none⟩) lf.length cp] TIs :: ([rowW TI64 1 (.slice (some ⟨g, 0, none⟩) lf.length cp) lf.length (lf.map (fun x => .int .i64 x)), blkC db #[ndv] TNs, blkC sb #[.slice (some ⟨gl, 0, none⟩) K K] TIs] ++ intC gl K la :: [treeC L sh 100 s c])) own := by
    rw [List.append_assoc]; exact h1
  refine ⟨fun e => ?_, fun e => ?_, fun e => ?_⟩
  · obtain ⟨oC, oD, a1, a2, a3⟩ := sep_apart _ h2
    subst e
    exact a3 g ((a1.2 g).2 rfl) ((a2.2 g).2 rfl)
  · obtain ⟨oC, oD, a1, a2, a3⟩ := sep_apart _ h3
    subst e
    exact a3 g ((a1.2 g).2 rfl) ((a2.2 g).2 rfl)
  · obtain ⟨oC, oD, a1, a2, a3⟩ := sep_apart _ h4
    subst e
    exact a3 lb ((a1.2 lb).2 rfl) ((a2.2 lb).2 rfl)
/-- The cells that are read. -/
theorem k_read (h : Made w0 w (Q ++ keepL tb nb lb db sb gl K lfv ndv L sh n lf la s c)) :
    w.cell? ⟨tb, 0, none⟩ = some (.pointer (some ⟨L.b, 0, none⟩)) ∧ (w.cell? ⟨nb, 0, none⟩ = some (.int .i64 (n : Nat)) ∧ w.frozen? ⟨nb, 0, none⟩ = false) ∧ (w.cell? ⟨lb, 0, none⟩ = some lfv ∧ w.frozen? ⟨lb, 0, none⟩ = false) ∧ w.cell? ⟨db, 0, none⟩ = some ndv ∧ w.cell? ⟨sb, 0, none⟩ = some (.slice (some ⟨gl, 0, none⟩) K K) := by
  obtain ⟨_, h1, _, _⟩ := Made.at_ (A := []) (C := blkC tb #[.pointer (some ⟨L.b, 0, none⟩)] TPt) Q h
  obtain ⟨_, h2, _, _⟩ := Made.at_ (A := [_]) (C := blkC nb #[.int .i64 (n : Nat)] TI64) Q h
  obtain ⟨_, h3, _, _⟩ := Made.at_ (A := [_, _]) (C := blkC lb #[lfv] TIs) Q h
  obtain ⟨_, h4, _, _⟩ := Made.at_ (A := [_, _, _, _]) (C := blkC db #[ndv] TNs) Q h
  obtain ⟨_, h5, _, _⟩ := Made.at_ (A := [_, _, _, _, _]) (C := blkC sb #[.slice (some ⟨gl, 0, none⟩) K K] TIs) Q h
  exact ⟨h1.1.cellAt rfl, ⟨h2.1.cellAt rfl, h2.1.free 0⟩, ⟨h3.1.cellAt rfl, h3.1.free 0⟩, h4.1.cellAt rfl, h5.1.cellAt rfl⟩
theorem k_lf (h : Made w0 w (Q ++ keepL tb nb lb db sb gl K lfv ndv L sh n lf la s c)) {i : Nat} {x : Int} (hx : lf[i]? = some x) : ∃ g cp, lfv = .slice (some ⟨g, 0, none⟩) lf.length cp ∧ w.cell? ⟨g, i, none⟩ = some (.int .i64 x) ∧ w.frozen? ⟨g, i, none⟩ = false := by
  obtain ⟨_, h1, _, _⟩ := Made.at_ (A := [_, _, _]) (C := rowW TI64 1 lfv lf.length (lf.map (fun x => .int .i64 x))) Q h
  have hlt : i < lf.length := by
    rcases Nat.lt_or_ge i lf.length with h' | h'
    · exact h'
    · rw [List.getElem?_eq_none h'] at hx; cases hx
  obtain ⟨g, cp, rfl⟩ := rowW_arr h1 (by omega)
  obtain ⟨a1, a2⟩ := rowW_cell h1 (k := i) (u := .int .i64 x) (by rw [List.getElem?_map, hx]; rfl)
  exact ⟨g, cp, rfl, a1, a2⟩
theorem k_form (h : Made w0 w (Q ++ keepL tb nb lb db sb gl K lfv ndv L sh n lf la s c)) : ∃ ad cp, lfv = .slice ad lf.length cp := by
  obtain ⟨_, h1, _, _⟩ := Made.at_ (A := [_, _, _]) (C := rowW TI64 1 lfv lf.length (lf.map (fun x => .int .i64 x))) Q h
  rcases h1.1.2 with ⟨rfl, h0⟩ | ⟨g, c, cur, rfl, _⟩
  · exact ⟨none, 0, by rw [h0]⟩
  · exact ⟨_, _, rfl⟩
theorem k_la (h : Made w0 w (Q ++ keepL tb nb lb db sb gl K lfv ndv L sh n lf la s c)) {i y : Nat} (hy : la[i]? = some y) : w.cell? ⟨gl, i, none⟩ = some (.int .i64 (y : Nat)) ∧ w.frozen? ⟨gl, i, none⟩ = false := by
  obtain ⟨_, h1, _, _⟩ := Made.at_ (A := [_, _, _, _, _, _]) (C := intC gl K la) Q h
  exact rowW_cell h1 (by rw [List.getElem?_map, hy]; rfl)
theorem k_setn (h : Made w0 w (Q ++ keepL tb nb lb db sb gl K lfv ndv L sh n lf la s c)) (n' : Nat) : Made w0 (w.setCell ⟨nb, 0, none⟩ (.int .i64 (n' : Nat))) (Q ++ keepL tb nb lb db sb gl K lfv ndv L sh n' lf la s c) := by
  obtain ⟨o, h1, _, h3⟩ := Made.at_ (A := [_]) (C := blkC nb #[.int .i64 (n : Nat)] TI64) Q h
  obtain ⟨a1, a2⟩ := blk_set (u := .int .i64 (n' : Nat)) h1
  exact h3 _ o _ a1 a2
theorem k_setlf {g cp : Nat} (h : Made w0 w (Q ++ keepL tb nb lb db sb gl K (.slice (some ⟨g, 0, none⟩) lf.length cp) ndv L sh n lf la s c)) (i : Nat) (x : Int) : Made w0 (w.setCell ⟨g, i, none⟩ (.int .i64 x)) (Q ++ keepL tb nb lb db sb gl K (.slice (some ⟨g, 0, none⟩) (lf.set i x).length cp) ndv L sh n (lf.set i x) la s c) := by
  obtain ⟨o, h1, _, h3⟩ := Made.at_ (A := [_, _, _]) (C := rowW TI64 1 (.slice (some ⟨g, 0, none⟩) lf.length cp) lf.length (lf.map (fun x => .int .i64 x))) Q h
  obtain ⟨a1, a2⟩ := rowW_set h1 i (.int .i64 x)
  have e : (lf.map (fun x => Value.int .i64 x)).set i (.int .i64 x) = (lf.set i x).map (fun x => .int .i64 x) := by rw [List.map_set]
  rw [e] at a1
  rw [List.length_set]
  have h4 := h3 _ o (rowW TI64 1 (.slice (some ⟨g, 0, none⟩) lf.length cp) lf.length ((lf.set i x).map (fun x => .int .i64 x))) a1 a2
  unfold keepL
  rw [List.length_set]
  exact h4
theorem k_setla (h : Made w0 w (Q ++ keepL tb nb lb db sb gl K lfv ndv L sh n lf la s c)) (i y : Nat) : Made w0 (w.setCell ⟨gl, i, none⟩ (.int .i64 (y : Nat))) (Q ++ keepL tb nb lb db sb gl K lfv ndv L sh n lf (la.set i y) s c) := by
  obtain ⟨o, h1, _, h3⟩ := Made.at_ (A := [_, _, _, _, _, _]) (C := intC gl K la) Q h
  obtain ⟨a1, a2⟩ := rowW_set h1 i (.int .i64 (y : Nat))
  have e : (la.map (fun x => Value.int .i64 ((x : Nat) : Int))).set i (.int .i64 (y : Nat)) = (la.set i y).map (fun x => .int .i64 (x : Nat)) := by rw [List.map_set]
  rw [e] at a1
  exact h3 _ o (intC gl K (la.set i y)) a1 a2
theorem k_tree (h : Made w0 w (Q ++ keepL tb nb lb db sb gl K lfv ndv L sh n lf la s c)) : ∃ A, Made w0 w ((Q ++ A) ++ treeC L sh 100 s c :: []) ∧ ∀ w' s' c', Made w0 w' ((Q ++ A) ++ treeC L sh 100 s' c' :: []) → Made w0 w' (Q ++ keepL tb nb lb db sb gl K lfv ndv L sh n lf la s' c') := by
  refine ⟨[blkC tb #[.pointer (some ⟨L.b, 0, none⟩)] TPt, blkC nb #[.int .i64 (n : Nat)] TI64, blkC lb #[lfv] TIs, rowW TI64 1 lfv lf.length (lf.map (fun x => .int .i64 x)), blkC db #[ndv] TNs, blkC sb #[.slice (some ⟨gl, 0, none⟩) K K] TIs, intC gl K la], ?_, fun w' s' c' h' => ?_⟩
  · rw [List.append_assoc]; exact h
  · rw [List.append_assoc] at h'; exact h'
/-- One more is laid behind the row of leaves. -/
theorem k_push {v' : Value} {x : Int} {wx w6 : World} (h : Made w0 w (Q ++ keepL tb nb lb db sb gl K lfv ndv L sh n lf la s c)) (hx : Upd Nowhere w wx) (ho : w6.ownsRow 0 TI64 1 v' (lf.length + 1) (lf.map (fun x => .int .i64 x) ++ [.int .i64 x])) (hu : Upd (fun k => lfv.ownBlock = some k) wx w6) (hn : OwnOrNew wx lfv v') :
    Made w0 (w6.setCell ⟨lb, 0, none⟩ v') (Q ++ keepL tb nb lb db sb gl K v' ndv L sh n (lf ++ [x]) la s c) ∧ w6.cell? ⟨lb, 0, none⟩ = some lfv ∧ w6.frozen? ⟨lb, 0, none⟩ = false ∧ w6.cell? ⟨nb, 0, none⟩ = some (.int .i64 (n : Nat)) ∧ w6.frozen? ⟨nb, 0, none⟩ = false ∧ nb ≠ lb := by
  obtain ⟨o, h1, _, h3⟩ := Made.at_ (A := [_, _, _]) (C := rowW TI64 1 lfv lf.length (lf.map (fun x => .int .i64 x))) Q h
  have e : lf.map (fun x => Value.int .i64 x) ++ [.int .i64 x] = (lf ++ [x]).map (fun x => .int .i64 x) := by rw [List.map_append]; rfl
  rw [e] at ho
  obtain ⟨a1, a2⟩ := rowW_push h1 hx ho hu hn
  have h4 := h3 w6 _ _ a1 a2
  have h5 : Made w0 w6 (Q ++ ([blkC tb #[.pointer (some ⟨L.b, 0, none⟩)] TPt, blkC nb #[.int .i64 (n : Nat)] TI64] ++ blkC lb #[lfv] TIs :: [rowW TI64 1 v' (lf.length + 1) ((lf ++ [x]).map (fun x => .int .i64 x)), blkC db #[ndv] TNs, blkC sb #[.slice (some ⟨gl, 0, none⟩) K K] TIs, intC gl K la, treeC L sh 100 s c])) := h4
  obtain ⟨o2, b1, _, b3⟩ := Made.at_ Q h5
  obtain ⟨c1, c2⟩ := blk_set (u := v') b1
  have h7 : Made w0 w6 (Q ++ ([blkC tb #[.pointer (some ⟨L.b, 0, none⟩)] TPt] ++ blkC nb #[.int .i64 (n : Nat)] TI64 :: ([] ++ blkC lb #[lfv] TIs :: [rowW TI64 1 v' (lf.length + 1) ((lf ++ [x]).map (fun x => .int .i64 x)), blkC db #[ndv] TNs, blkC sb #[.slice (some ⟨gl, 0, none⟩) K K] TIs, intC gl K la, treeC L sh 100 s c]))) := h4
  rw [← List.append_assoc] at h7
  obtain ⟨own, g1, _⟩ := h7
  obtain ⟨oC, oD, d1, d2, d3⟩ := sep_apart _ g1
  refine ⟨?_, b1.1.cellAt rfl, b1.1.free 0, d1.1.cellAt rfl, d1.1.free 0, fun e => by subst e; exact d3 nb ((d1.2 nb).2 rfl) ((d2.2 nb).2 rfl)⟩
  have h6 := b3 _ o2 _ c1 c2
  unfold keepL
  rw [List.length_append]
  exact h6
end
end Go.Proofs.YtllfloapiliheaaDoor.Tree
namespace Go.Proofs.YtllfloapiliheaaDoor.Tree
open Go.RowKit Go.Proofs BigFrame
set_option maxHeartbeats 8000000
set_option maxRecDepth 1000000
/-- What the law knows of its rows. -/
structure Rws (sh : Sh) (K : Nat) (lf : List Int) (la : List Nat) (last : Nat → Nat) : Prop where
  n : sh.n = K
  lal : la.length = K
  at_ : ∀ u y, la[u]? = some y → last u = y
  le : ∀ v, last v ≤ lf.length
  lo : ∀ x ∈ lf, x = -1 ∨ 0 ≤ x
theorem Rws.pop {sh : Sh} {K : Nat} {lf : List Int} {la : List Nat} {last : Nat → Nat} (h : Rws sh K lf la last) {u a : Nat} (hu : u < K) (ha : a < lf.length) : Rws sh K (lf.set a (-1)) (la.set u a) (up last u a) := by
  refine ⟨h.n, by rw [List.length_set]; exact h.lal, fun v y hy => ?_, fun v => ?_, fun x hx => ?_⟩
  · rw [List.getElem?_set] at hy
    by_cases e : u = v
    · subst e
      rw [if_pos rfl, if_pos (by rw [h.lal]; exact hu)] at hy
      rw [up_at]; exact Option.some.inj hy
    · rw [if_neg e] at hy
      rw [up_off _ (fun h9 => e h9.symm)]
      exact h.at_ v y hy
  · rw [List.length_set]
    have := h.le v
    unfold up
    split <;> omega
  · rcases List.mem_or_eq_of_mem_set hx with hx | rfl
    · exact h.lo x hx
    · exact .inl rfl
theorem Rws.push {sh : Sh} {K : Nat} {lf : List Int} {la : List Nat} {last : Nat → Nat} (h : Rws sh K lf la last) {x : Int} (hx : 0 ≤ x) : Rws sh K (lf ++ [x]) la last := by
  refine ⟨h.n, h.lal, h.at_, fun v => ?_, fun y hy => ?_⟩
  · rw [List.length_append]; have := h.le v; omega
  · rcases List.mem_append.1 hy with hy | hy
    · exact h.lo y hy
    · rw [List.mem_singleton] at hy; subst hy; exact .inr hx
/-- What the closure leaves. -/
def Left (w0 w' : World) (Q : List Comp) (tb nb lb db sb gl K : Nat) (ndv : Value) (L : Lay) (sh : Sh) (m0 n0 c t : Nat) : Prop :=
  ∃ s' lf' la' last' lfv', Made w0 w' (Q ++ keepL tb nb lb db sb gl K lfv' ndv L sh s'.m lf' la' s' c) ∧ Kp sh s' lf' last' ∧ Rws sh K lf' la' last' ∧ lf'.length = n0 ∧ (t = 18446744073709551615 → s'.m = m0 - 1)
theorem leaves_ok {w0 w : World} {Q : List Comp} {tb nb lb db sb gl K cp c : Nat} {lfv : Value} {ad : Option Addr} {L : Lay} {nl : List Nd} {lf : List Int} {la : List Nat} {s : TS} {last : Nat → Nat} (E : Env w0) (hs : (shOf nl).Ok) (hok : okL 0 nl = true) (hnd : NodesAt w0 ad nl)
    (h : Made w0 w (Q ++ keepL tb nb lb db sb gl K lfv (.slice ad nl.length cp) L (shOf nl) s.m lf la s c)) (hk : Kp (shOf nl) s lf last) (hr : Rws (shOf nl) K lf la last) (hl2 : lf.length ≤ 1000) (hc : c + 20000000 < 18446744073709551615) {t : Nat} (ht : t ≤ 18446744073709551615) :
    Calls Tryd.prog 17 #[.int .u64 (t : Nat), .pointer (some ⟨tb, 0, none⟩), .pointer (some ⟨nb, 0, none⟩), .pointer (some ⟨lb, 0, none⟩), .pointer (some ⟨db, 0, none⟩), .pointer (some ⟨sb, 0, none⟩)] w fun e w' => e = .returned (.bool true) ∧
      Left w0 w' Q tb nb lb db sb gl K (.slice ad nl.length cp) L (shOf nl) s.m lf.length (c + 10000000) t := by
  obtain ⟨A, hA, hback⟩ := k_tree h
  obtain ⟨_, _, hg⟩ := m_tree _ _ hA
  obtain ⟨p, v, s', hv, hor⟩ := pop_tells hs hg hk ht
  have hm100 : s.m ≤ 100 := hg.le
  obtain ⟨c0, ⟨c1, _⟩, _, _, _⟩ := k_read h
  have HP := Lib.hid (m_pop _ _ hA E hs (by omega) hc ht hv)
  have HBK := Lib.hid hback
  have HOR := Lib.hid hor
  have HR := Lib.hid hr
  have HND := Lib.hid hnd
  have HOK := Lib.hid hok
  obtain ⟨m, hm⟩ : ∃ m, s.m = m := ⟨_, rfl⟩
  have HM := Lib.hid hm
  obtain ⟨p1, p2, p3⟩ := p
  clear h hA hback hg hv hor hr hnd hok hk E hm
  go_enter Tryd.func17, Tryd.ntmps17
  go_wp2_with fail
  refine (HP.out).mono ?_
  rintro e w1 ⟨rfl, h1⟩
  have h2 := HBK.out w1 s' (c + 10000000) h1
  have H3 := Lib.hid (show Made w0 (w1.alloc (.cells #[.int .u32 p1, .int .u32 p2, .int .u64 p3] TPk)) (blkC w1.heap.size #[.int .u32 p1, .int .u32 p2, .int .u64 p3] TPk :: (Q ++ keepL tb nb lb db sb gl K lfv (.slice ad nl.length cp) L (shOf nl) s.m lf la s' (c + 10000000))) from m_blk h2 _ TPk)
  clear h1 h2 HP HBK c0 c1
  go_upto_region 2 with fail
  generalize w1.alloc (.cells #[.int .u32 p1, .int .u32 p2, .int .u64 p3] TPk) = w2 at *
  generalize w1.heap.size = PB at *
  obtain ⟨c0, ⟨c1, c2⟩, ⟨c3, c4⟩, c5, c6⟩ := k_read (Q := blkC PB _ TPk :: Q) H3.out
  rw [HM.out] at c1
  rcases HOR.out with ⟨hv0, hv18, hmx, hk', hm'⟩ | ⟨hv0, hm0, hm', at_, u, hp2, hlf, hu, hlast, hk'⟩
  · have q0 : ((v : Int) == 0) = false := by simp; omega
    have q1 : ((v : Int) != 0) = true := by simp; omega
    have hme : s'.m = m := by rw [hm', HM.out]
    have HF : Hid (Made w0 w2 (Q ++ keepL tb nb lb db sb gl K lfv (.slice ad nl.length cp) L (shOf nl) s'.m lf la s' (c + 10000000))) := Lib.hid (by rw [hm']; exact H3.out.drop)
    have HK := Lib.hid hk'
    have HX := Lib.hid hmx
    have HME := Lib.hid hm'
    by_cases hz : m = 0
    · have q2 : ((v : Int) == 18) = true := by have := hv18.2 (by rw [HM.out]; exact hz); simp; omega
      have q3 : ((m : Int) == 0) = true := by simp; omega
      clear hv18 hmx hk' hm' hz hv0 HOR H3
      go_wp2_with fail
      go_ret
      exact ⟨rfl, s', lf, la, last, lfv, HF.out, HK.out, HR.out, rfl, fun hT => by have := HX.out hT; rw [HME.out]; omega⟩
    · have q2 : ((v : Int) == 18) = false := by have := fun h9 => hz (by have := hv18.1 h9; rw [HM.out] at this; exact this); simp; omega
      have q3 : ((m : Int) == 0) = false := by simp; omega
      clear hv18 hmx hk' hm' hz hv0 HOR H3
      go_wp2_with fail
      go_ret
      exact ⟨rfl, s', lf, la, last, lfv, HF.out, HK.out, HR.out, rfl, fun hT => by have := HX.out hT; rw [HME.out]; omega⟩
  · subst hv0
    have hp2 : p2 = at_ + 1 := hp2
    subst hp2
    have hlt : at_ < lf.length := by
      rcases Nat.lt_or_ge at_ lf.length with h' | h'
      · exact h'
      · rw [List.getElem?_eq_none h'] at hlf; cases hlf
    obtain ⟨n, hn⟩ : ∃ n, lf.length = n := ⟨_, rfl⟩
    obtain ⟨g, cp2, rfl, k0, k1⟩ := k_lf (Q := blkC PB _ TPk :: Q) H3.out hlf
    have huK : u < K := by rw [← HR.out.n]; exact hu
    obtain ⟨y, hy⟩ : ∃ y, la[u]? = some y := ⟨la[u]'(by rw [HR.out.lal]; exact huK), List.getElem?_eq_getElem _⟩
    obtain ⟨k2, k3⟩ := k_la (Q := blkC PB _ TPk :: Q) H3.out hy
    have hly := HR.out.at_ u y hy
    have hyn : y ≤ n := by have := HR.out.le u; omega
    have hun : u < nl.length := hu
    obtain ⟨hko, _⟩ := nth_ok HOK.out hun
    have hkk : (nth nl u).kind = (((shOf nl).kind u : Nat) : Int) := by
      show (nth nl u).kind = (((nth nl u).kind.toNat : Nat) : Int)
      omega
    have hna : nl[u]? = some (nth nl u) := by unfold nth; rw [List.getElem?_eq_getElem hun]; rfl
    obtain ⟨gn, on, rfl, kk⟩ : ∃ gn on, ad = some ⟨gn, on, none⟩ ∧ w2.cell? ⟨gn, on + u * 4 + 1, none⟩ = some (.int .i64 (((shOf nl).kind u : Nat) : Int)) := by
      cases ad with
      | none => have := HND.out.none rfl; omega
      | some b =>
        obtain ⟨hs1, hc1⟩ := HND.out.at_ b rfl (by omega)
        obtain ⟨g, o, sp⟩ := b
        simp only at hs1
        subst hs1
        obtain ⟨_, q1, _, _⟩ := hc1 u _ hna
        rw [hkk] at q1
        exact ⟨g, o, rfl, cell_old H3.out.upd q1⟩
    have kk' : w2.cell? ⟨gn, on + (u * 4 + 1), none⟩ = some (.int .i64 (((shOf nl).kind u : Nat) : Int)) := by rw [← Nat.add_assoc]; exact kk
    obtain ⟨kd, hkd⟩ : ∃ kd, (shOf nl).kind u = kd := ⟨_, rfl⟩
    rw [hkd] at kk kk' hlast
    have HLA : Hid (kd = 1 → y ≤ at_) := Lib.hid (fun h => by rw [← hly]; exact hlast h)
    have HK := Lib.hid hk'
    have HRR := Lib.hid (HR.out.pop huK hlt)
    have HLL : Hid ((lf.set at_ (-1)).length = lf.length) := Lib.hid List.length_set
    have HM1 := Lib.hid hm'
    have HM0 := Lib.hid hm0
    obtain ⟨_, hq, _, _⟩ := Made.foc (blkC PB #[.int .u32 p1, .int .u32 ((at_ + 1 : Nat) : Int), .int .u64 p3] TPk) _ [] H3.out
    obtain ⟨x0, x1, x2, -⟩ := cells3 hq.1
    obtain ⟨P1, hP1⟩ : ∃ P1, at_ + 1 = P1 := ⟨_, rfl⟩
    rw [hP1] at x1
    have hP2 : (P1 : Int) - 1 = (at_ : Int) := by omega
    have hP3 : P1 ≤ 1001 := by omega
    have hP4 : IntKind.i64.wrap (P1 : Int) = (P1 : Int) := by rw [IntKind.wrap_i64]; omega
    have H4 := Lib.hid H3.out.drop
    obtain ⟨hne1, hne4, hne6⟩ := k_apart H4.out
    have hne2 : ¬ gl = g := fun h => hne1 h.symm
    have hne3 : ¬ g = gl := hne1
    have hne5 : ¬ sb = g := fun h => hne4 h.symm
    have hne7 : ¬ gl = lb := fun h => hne6 h.symm
    rw [hn] at hlt hl2 c3
    have HN := Lib.hid hn
    have t1 : decide ((at_ : Int) < 0) = false := decide_eq_false (by omega)
    have t2 : decide ((at_ : Int) ≥ (n : Int)) = false := decide_eq_false (by omega)
    have t2' : decide (n ≤ at_) = false := decide_eq_false (by omega)
    have t3 : decide ((u : Int) < 0) = false := decide_eq_false (by omega)
    have hI1 : (at_ : Int) < (n : Int) := by omega
    have hI2 : (u : Int) < (nl.length : Int) := by omega
    have hI3 : (u : Int) < (K : Int) := by omega
    have q0 : (((0 : Nat) : Int) == 0) = true := rfl
    clear hq hk' hn hkd hlast hm' hm0 hlf hu hy hly hyn hko hkk hna hP1 H3 HND HOK HOR HR
    by_cases hk1 : kd = 1
    · have hy2 : y ≤ at_ := HLA.out hk1
      have q2 : ((kd : Int) == 1) = true := by simp; omega
      have q3 : decide ((at_ : Int) < (y : Int)) = false := decide_eq_false (by omega)
      have q4 : decide (at_ < y) = false := decide_eq_false (by omega)
      clear hk1
      go_upto_region 10 with fail
      go_cut [] from 62 to 68 (fun wc => Made w0 wc (Q ++ keepL tb nb lb db sb gl K (.slice (some ⟨g, 0, none⟩) (lf.set at_ (-1)).length cp2) (.slice (some ⟨gn, on, none⟩) nl.length cp) L (shOf nl) s.m (lf.set at_ (-1)) (la.set u at_) s' (c + 10000000)))
      case first =>
        go_region
        all_goals
          go_wp2_with fail
          go_meet
          repeat (first | with_reducible exact H4.out | with_reducible refine k_setla ?_ _ _ | with_reducible refine k_setlf ?_ _ _ | with_reducible refine Made.old ?_ ((Upd.refl _ _).drew))
      case rest =>
        obtain ⟨w5, rfl⟩ : ∃ x, x = wc := ⟨_, rfl⟩
        have H5 := Lib.hid hcut
        clear hcut H4 c0 c1 c2 c3 c4 c5 c6 k0 k1 k2 k3 kk kk' x0 x1 x2
        obtain ⟨c0, ⟨c1, c2⟩, _, _, _⟩ := k_read H5.out
        rw [HM.out] at c1
        obtain ⟨m1, hm1⟩ : ∃ m1, m - 1 = m1 := ⟨_, rfl⟩
        have hm2 : (m : Int) - 1 = (m1 : Int) := by have := HM0.out; have := HM.out; omega
        have hm3 : m ≤ 100 := by rw [← HM.out]; exact hm100
        have hm5 : s'.m = m1 := by rw [HM1.out, HM.out, hm1]
        have H6 := Lib.hid (k_setn H5.out m1)
        have HM5 := Lib.hid hm5
        clear hm1 hm5
        go_upto_region 12 with fail
        generalize w5.setCell ⟨nb, 0, none⟩ (.int .i64 (m1 : Nat)) = w6 at *
        clear c0 c1 c2 H5
        obtain ⟨c0, ⟨c1, c2⟩, _, _, _⟩ := k_read H6.out
        obtain ⟨A, hA, _⟩ := k_tree H6.out
        obtain ⟨_, hti, _⟩ := m_tree _ _ hA
        have HLE := fun k => Lib.hid (len_ok (hti.old ((Upd.refl Nowhere w6).drewN k)))
        rw [HM5.out] at HLE
        have qe : ((m1 : Int) == (m1 : Int)) = true := by simp
        clear hA hti
        go_quiet ((go_at_call 18; exact quiet_same (HLE _).out))
        go_wp2_with fail
        go_ret
        exact ⟨rfl, s', _, _, _, _, (by rw [HM5.out]; exact H6.out.old ((Upd.refl _ _).drewN _)), HK.out, HRR.out, HLL.out, fun _ => HM1.out⟩
    · have q2 : ((kd : Int) == 1) = false := by simp; omega
      clear hk1
      go_upto_region 10 with fail
      go_cut [] from 62 to 68 (fun wc => Made w0 wc (Q ++ keepL tb nb lb db sb gl K (.slice (some ⟨g, 0, none⟩) (lf.set at_ (-1)).length cp2) (.slice (some ⟨gn, on, none⟩) nl.length cp) L (shOf nl) s.m (lf.set at_ (-1)) (la.set u at_) s' (c + 10000000)))
      case first =>
        go_region
        all_goals
          go_wp2_with fail
          go_meet
          repeat (first | with_reducible exact H4.out | with_reducible refine k_setla ?_ _ _ | with_reducible refine k_setlf ?_ _ _ | with_reducible refine Made.old ?_ ((Upd.refl _ _).drew))
      case rest =>
        obtain ⟨w5, rfl⟩ : ∃ x, x = wc := ⟨_, rfl⟩
        have H5 := Lib.hid hcut
        clear hcut H4 c0 c1 c2 c3 c4 c5 c6 k0 k1 k2 k3 kk kk' x0 x1 x2
        obtain ⟨c0, ⟨c1, c2⟩, _, _, _⟩ := k_read H5.out
        rw [HM.out] at c1
        obtain ⟨m1, hm1⟩ : ∃ m1, m - 1 = m1 := ⟨_, rfl⟩
        have hm2 : (m : Int) - 1 = (m1 : Int) := by have := HM0.out; have := HM.out; omega
        have hm3 : m ≤ 100 := by rw [← HM.out]; exact hm100
        have hm5 : s'.m = m1 := by rw [HM1.out, HM.out, hm1]
        have H6 := Lib.hid (k_setn H5.out m1)
        have HM5 := Lib.hid hm5
        clear hm1 hm5
        go_upto_region 12 with fail
        generalize w5.setCell ⟨nb, 0, none⟩ (.int .i64 (m1 : Nat)) = w6 at *
        clear c0 c1 c2 H5
        obtain ⟨c0, ⟨c1, c2⟩, _, _, _⟩ := k_read H6.out
        obtain ⟨A, hA, _⟩ := k_tree H6.out
        obtain ⟨_, hti, _⟩ := m_tree _ _ hA
        have HLE := fun k => Lib.hid (len_ok (hti.old ((Upd.refl Nowhere w6).drewN k)))
        rw [HM5.out] at HLE
        have qe : ((m1 : Int) == (m1 : Int)) = true := by simp
        clear hA hti
        go_quiet ((go_at_call 18; exact quiet_same (HLE _).out))
        go_wp2_with fail
        go_ret
        exact ⟨rfl, s', _, _, _, _, (by rw [HM5.out]; exact H6.out.old ((Upd.refl _ _).drewN _)), HK.out, HRR.out, HLL.out, fun _ => HM1.out⟩
end Go.Proofs.YtllfloapiliheaaDoor.Tree
namespace Go.Proofs.YtllfloapiliheaaDoor.Tree
open Go.RowKit Go.Proofs BigFrame
set_option maxHeartbeats 16000000
set_option maxRecDepth 1000000
theorem keeps_no (ad : Option Addr) (cp : Nat) (nl : List Nd) (ad2 : Option Addr) (n2 c2 : Nat) (w : World) (E : Env w) (hn : NodesAt w ad nl) (h : (decide (40 < nl.length ∨ 150 < n2) || !goodN nl) = true) :
    Calls Tryd.prog 7 #[.slice ad nl.length cp, .slice ad2 n2 c2] w fun e w' => e = .returned (.bool true) ∧ Upd Nowhere w w' := by
  have hu0 : Upd Nowhere w (w.alloc (.cells #[.slice ad nl.length cp] TNs)) := (Upd.refl _ _).alloc _
  have hb0 : Blk (w.alloc (.cells #[.slice ad nl.length cp] TNs)) w.heap.size #[.slice ad nl.length cp] TNs := Blk.new _ _ _
  have HL := fun u (hu : Upd Nowhere w u) => Lib.hid (lives u (E.old hu))
  have HNO := fun u (hu : Upd Nowhere w u) (hg : goodN nl = false) => Lib.hid (new_no (cp := cp) (room := 100) (NodesAt.old hn hu) hg)
  have HFA := fun u => Lib.hid (far_ok ad nl.length cp ad2 n2 c2 u)
  clear E hn
  by_cases hf : 40 < nl.length ∨ 150 < n2
  · rw [decide_eq_true hf] at HFA
    clear h hf HNO
    go_enter Tryd.func7, Tryd.ntmps7
    go_upto_region 1 with fail
    generalize w.alloc (.cells #[.slice ad nl.length cp] TNs) = w1 at *
    generalize w.heap.size = DB at *
    obtain ⟨b0, b1⟩ := cells1 hb0
    go_wp2_with fail
    refine ((HFA _).out).mono ?_
    rintro e w2 ⟨rfl, rfl⟩
    have hlv := Lib.hid (HL _ hu0).out
    go_wp2_with fail
    refine (hlv.out).mono ?_
    rintro e w2 ⟨rfl, u2⟩
    go_wp2_with fail
    go_ret
    exact ⟨rfl, hu0.trans u2 (fun _ _ h => h)⟩
  · rw [decide_eq_false hf] at HFA h
    have hg : goodN nl = false := by revert h; cases goodN nl <;> simp
    obtain ⟨e1, h1, hN1⟩ := (HNO _ hu0 hg).out
    have q1 : (e1 == 0) = false := by simp; exact h1
    have q2 : (e1 != 0) = true := by simp; exact h1
    have HN1 := Lib.hid hN1
    clear h hf hg HNO h1 hN1
    go_enter Tryd.func7, Tryd.ntmps7
    go_upto_region 1 with fail
    generalize w.alloc (.cells #[.slice ad nl.length cp] TNs) = w1 at *
    generalize w.heap.size = DB at *
    obtain ⟨b0, b1⟩ := cells1 hb0
    go_wp2_with fail
    refine ((HFA _).out).mono ?_
    rintro e w2 ⟨rfl, rfl⟩
    go_wp2_with fail
    refine (HN1.out).mono ?_
    rintro e w2 ⟨rfl, u2⟩
    have hu2 : Upd Nowhere w (w2.alloc (.cells #[.pointer none] TPt)) := (hu0.trans u2 (fun _ _ h => h)).alloc _
    have hlv := Lib.hid (HL _ hu2).out
    go_wp2_with fail
    refine (hlv.out).mono ?_
    rintro e w4 ⟨rfl, u4⟩
    go_wp2_with fail
    go_ret
    exact ⟨rfl, hu2.trans u4 (fun _ _ h => h)⟩
/-- What stands at the loops' heads. -/
def Kat (w wr : World) (tb nb lb db sb gl K : Nat) (ndv : Value) (L : Lay) (sh : Sh) (k m c : Nat) : Prop :=
  ∃ lfv s lf la last, Made w wr ([] ++ keepL tb nb lb db sb gl K lfv ndv L sh s.m lf la s c) ∧ Kp sh s lf last ∧ Rws sh K lf la last ∧ lf.length ≤ k ∧ s.m = m
theorem blk_new3 (w : World) (o o' : Obj) (c : Array Value) (t : TypeId) : Blk (((w.alloc o).alloc o').alloc (.cells c t)) (w.heap.size + 1 + 1) c t := by
  have h := Blk.new ((w.alloc o).alloc o') c t
  simpa using h
theorem k_start {w w5 wF : World} {tb nb lb db sb gl K : Nat} {ndv : Value} {L : Lay} {sh : Sh} {csI : Array Value} (h : Made w w5 [blkC lb #[.slice none 0 0] TIs, blkC tb #[.pointer (some ⟨L.b, 0, none⟩)] TPt, treeC L sh 100 s0 0, blkC db #[ndv] TNs]) (hcs : csI = madeCells #[.int .i64 0] (K * 1)) (hK : sh.n = K) (hK2 : K ≤ 1000) (hu : Upd Nowhere w5 wF)
    (hI : Blk wF gl csI TI64) (hN : Blk wF nb #[.int .i64 0] TI64) (hS : Blk wF sb #[.slice (some ⟨gl, 0, none⟩) K K] TIs) (h1 : w5.heap.size ≤ gl) (h2 : w5.heap.size ≤ nb) (h3 : w5.heap.size ≤ sb) (h4 : gl ≠ nb) (h5 : gl ≠ sb) (h6 : nb ≠ sb) :
    Kat w wF tb nb lb db sb gl K ndv L sh 0 0 0 := by
  obtain ⟨own, a1, a2, a3⟩ := h
  have ecs : csI.toList = (List.replicate K 0).map (fun x => Value.int .i64 ((x : Nat) : Int)) := by rw [hcs, made_list]; simp
  have hsz : csI.size = K * 1 := by rw [hcs]; simp [madeCells]
  have r1 : (intC gl K (List.replicate K 0)).P wF (fun k => k = gl) := ⟨⟨by simp, .inr ⟨gl, K, csI, rfl, Nat.zero_le _, hI, Nat.le_refl _, by unfold maxLen; omega, hsz, by rw [← ecs]; exact List.take_of_length_le (by rw [Array.length_toList, hsz]; exact Nat.le_refl _)⟩⟩, fun k => ⟨fun h => by rw [h]; rfl, fun h => (Option.some.inj h).symm⟩⟩
  have r2 : (blkC nb #[.int .i64 ((0 : Nat) : Int)] TI64).P wF (fun k => k = nb) := ⟨hN, fun _ => Iff.rfl⟩
  have r3 : (blkC sb #[.slice (some ⟨gl, 0, none⟩) K K] TIs).P wF (fun k => k = sb) := ⟨hS, fun _ => Iff.rfl⟩
  have r4 : (rowW TI64 1 (.slice none 0 0) 0 []).P wF (fun _ => False) := ⟨ownsRow_nil _ _ _ _, fun k => ⟨fun h => h.elim, fun h => by simp [Value.ownBlock] at h⟩⟩
  have hold := a1.old hu
  have hlt : ∀ k, own k → k < w5.heap.size := fun k hk => a1.lt hk
  have m : Made w wF [intC gl K (List.replicate K 0), blkC nb #[.int .i64 ((0 : Nat) : Int)] TI64, blkC sb #[.slice (some ⟨gl, 0, none⟩) K K] TIs, rowW TI64 1 (.slice none 0 0) 0 [], blkC lb #[.slice none 0 0] TIs, blkC tb #[.pointer (some ⟨L.b, 0, none⟩)] TPt, treeC L sh 100 s0 0, blkC db #[ndv] TNs] := by
    refine ⟨fun k => k = gl ∨ (k = nb ∨ (k = sb ∨ (False ∨ own k))), ⟨_, _, r1, ⟨_, _, r2, ⟨_, _, r3, ⟨_, _, r4, hold, fun _ h => h.elim, fun _ => Iff.rfl⟩, fun k hk h9 => ?_, fun _ => Iff.rfl⟩, fun k hk h9 => ?_, fun _ => Iff.rfl⟩, fun k hk h9 => ?_, fun _ => Iff.rfl⟩, fun k hk => ?_, a3.trans hu (fun _ _ h => h)⟩
    · subst hk
      rcases h9 with h9 | h9
      · exact h9
      · have := hlt _ h9; omega
    · subst hk
      rcases h9 with h9 | h9 | h9
      · exact h6 h9
      · exact h9
      · have := hlt _ h9; omega
    · subst hk
      rcases h9 with h9 | h9 | h9 | h9
      · exact h4 h9
      · exact h5 h9
      · exact h9
      · have := hlt _ h9; omega
    · have hsz5 := a3.size
      rcases hk with rfl | rfl | rfl | hk | hk
      · omega
      · omega
      · omega
      · exact hk.elim
      · exact a2 k hk
  have hp : [0, 1, 2, 3, 4, 5, 6, 7].Perm [5, 1, 4, 3, 7, 2, 0, 6] := by decide
  have hpm := hp.map (fun i : Nat => match i with
    | 0 => intC gl K (List.replicate K 0) | 1 => blkC nb #[.int .i64 ((0 : Nat) : Int)] TI64 | 2 => blkC sb #[.slice (some ⟨gl, 0, none⟩) K K] TIs | 3 => rowW TI64 1 (.slice none 0 0) 0 []
    | 4 => blkC lb #[.slice none 0 0] TIs | 5 => blkC tb #[.pointer (some ⟨L.b, 0, none⟩)] TPt | 6 => treeC L sh 100 s0 0 | _ => blkC db #[ndv] TNs)
  have m2 : Made w wF ([] ++ keepL tb nb lb db sb gl K (.slice none 0 0) ndv L sh 0 [] (List.replicate K 0) s0 0) := m.perm hpm
  refine ⟨.slice none 0 0, s0, [], List.replicate K 0, fun _ => 0, m2, ⟨fun v hv hl a ha => (by cases ha), fun v hv hl => List.Pairwise.nil, fun v hv hl hk => ⟨fun a ha => (by cases ha), List.Pairwise.nil, fun a ha => (by cases ha)⟩⟩, ⟨hK, List.length_replicate, fun u y hy => (List.eq_of_mem_replicate (List.mem_of_getElem? hy)).symm, fun v => Nat.le_refl _, fun x hx => (by cases hx)⟩, Nat.le_refl _, rfl⟩
theorem keeps_walk (ad : Option Addr) (cp : Nat) (nl : List Nd) (ad2 : Option Addr) (c2 : Nat) (l : List Act) (w : World) (E : Env w) (hn : NodesAt w ad nl) (hg : goodN nl = true) (hfn : FitN nl) (h40 : nl.length ≤ 40) (h150 : l.length ≤ 150) (ha : Acts w ad2 l) (hok : ∀ a ∈ l, a.Ok) :
    Calls Tryd.prog 7 #[.slice ad nl.length cp, .slice ad2 l.length c2] w fun e w' => e = .returned (.bool true) ∧ Upd Nowhere w w' := by
  have hmf : ∀ (fn : Fn) (first cap : Array Value) (w : World), (Instr.makeFunc fn first cap).run Tryd.prog w = .ok (.func fn first cap) w := fun _ _ _ _ => rfl
  obtain ⟨g0, g1, g2⟩ := goodN_true hg
  have hsh := shOf_ok g2 g0 g1 hfn
  obtain ⟨n, hnl⟩ : ∃ n, l.length = n := ⟨_, rfl⟩
  have hf := fun u => Lib.hid (far_ok ad nl.length cp ad2 l.length c2 u)
  rw [decide_eq_false (by omega)] at hf
  rw [hnl] at hf h150 ⊢
  have HN1 := fun u lc (hm : Made w u lc) => Lib.hid (m_new (room := 100) (cp := cp) hm E (NodesAt.old hn hm.upd) g0 g1 g2 (by omega) (by omega))
  have HL := fun u (hu : Upd Nowhere w u) => Lib.hid (lives u (E.old hu))
  have hm0 : Made w (w.alloc (.cells #[.slice ad nl.length cp] TNs)) [] := (Made.start w).old ((Upd.refl _ _).alloc _)
  have hb0 : Blk (w.alloc (.cells #[.slice ad nl.length cp] TNs)) w.heap.size #[.slice ad nl.length cp] TNs := Blk.new _ _ _
  have hm1 : Made w (w.alloc (.cells #[.slice ad nl.length cp] TNs)) [blkC w.heap.size #[.slice ad nl.length cp] TNs] := m_blk (Made.start w) _ _
  obtain ⟨csI, hcsI, hmkI⟩ : ∃ cs : Array Value, (cs = madeCells #[.int .i64 0] (nl.length * 1)) ∧ ∀ u : World, (Instr.makeSlice 32 (.int .i64 (nl.length : Nat)) (.int .i64 (nl.length : Nat))).run Tryd.prog u = .ok (.slice (some ⟨u.heap.size, 0, none⟩) nl.length nl.length) (u.alloc (.cells cs TI64)) := by
    obtain ⟨i0, hi, hz0, hz1, hz2⟩ := info_parts infoI64
    refine ⟨_, rfl, fun u => ?_⟩
    have h := Go.run_make (P := Tryd.prog) u 32 TI64 i0 (.int .i64 0) Tryd.underlying32 hi hz0 .i64 .i64 nl.length nl.length (by omega) (by omega) (by rw [hz2]; omega) (by omega)
    rw [h, hz1]
    simp [Value.cells]
  have HE := Lib.hid E
  have HA := Lib.hid ha
  have HO := Lib.hid hok
  have HNL := Lib.hid hnl
  have HS := Lib.hid hsh
  have HG2 := Lib.hid g2
  have HND := Lib.hid hn
  have HCS := Lib.hid hcsI
  clear E hn hg hfn g2 ha hok hnl hsh hcsI
  go_enter Tryd.func7, Tryd.ntmps7
  go_upto_region 1 with fail
  generalize w.alloc (.cells #[.slice ad nl.length cp] TNs) = w1 at *
  obtain ⟨DB, hDB⟩ : ∃ DB, w.heap.size = DB := ⟨_, rfl⟩
  rw [hDB] at hm1 hb0
  try simp only [hDB]
  clear hDB
  obtain ⟨b0, b1⟩ := cells1 hb0
  go_wp2_with fail
  refine ((hf _).out).mono ?_
  rintro e w2 ⟨rfl, rfl⟩
  have HN2 := Lib.hid (HN1 _ _ hm1).out
  clear hm0 hm1 hb0 HN1 hf
  go_wp2_with fail
  refine (HN2.out).mono ?_
  rintro e w3 ⟨L, rfl, h3⟩
  have h4 := m_blk h3 #[.pointer (some ⟨L.b, 0, none⟩)] TPt
  clear h3 HN2 b0 b1
  go_upto_region 4 with fail
  generalize w3.alloc (.cells #[.pointer (some ⟨L.b, 0, none⟩)] TPt) = w4 at *
  obtain ⟨TB, hTB⟩ : ∃ TB, w3.heap.size = TB := ⟨_, rfl⟩
  rw [hTB] at h4
  try simp only [hTB]
  clear hTB
  obtain ⟨_, ht4, _, _⟩ := Made.foc (blkC TB #[.pointer (some ⟨L.b, 0, none⟩)] TPt) _ [] h4
  obtain ⟨t0, t1⟩ := cells1 ht4.1
  have h5 := m_blk h4 #[.slice none 0 0] TIs
  clear ht4
  go_upto_region 7 with fail
  clear t0 t1
  generalize w4.alloc (.cells #[.slice none 0 0] TIs) = w5 at *
  obtain ⟨LB, hLB⟩ : ∃ LB, w4.heap.size = LB := ⟨_, rfl⟩
  rw [hLB] at h5
  try simp only [hLB]
  clear hLB h4
  obtain ⟨_, ht5, _, _⟩ := Made.foc (blkC DB #[.slice ad nl.length cp] TNs) [] [_, _, _] h5
  obtain ⟨b0, b1⟩ := cells1 ht5.1
  have H5 := Lib.hid h5
  have a0 : ∀ o, (w5.alloc o).cell? ⟨DB, 0, none⟩ = some (.slice ad nl.length cp) := fun o => cell_old ((Upd.refl _ _).alloc _) b0
  have a1 : ∀ o o', ((w5.alloc o).alloc o').cell? ⟨DB, 0, none⟩ = some (.slice ad nl.length cp) := fun o o' => cell_old (((Upd.refl _ _).alloc _).alloc _) b0
  have hlt5 := cell_lt b0
  have hn1 : ¬ DB = w5.heap.size := by have : DB < w5.heap.size := hlt5; omega
  have hn2 : ¬ DB = w5.heap.size + 1 := by have : DB < w5.heap.size := hlt5; omega
  have hn3 : ¬ w5.heap.size = DB := fun h => hn1 h.symm
  have hn4 : ¬ w5.heap.size + 1 = DB := fun h => hn2 h.symm
  clear ht5 h5
  go_cut [8, 9] (fun nv sv wc => ∃ nb sb gl : Nat, nv = .pointer (some ⟨nb, 0, none⟩) ∧ sv = .pointer (some ⟨sb, 0, none⟩) ∧ Kat w wc TB nb LB DB sb gl nl.length (.slice ad nl.length cp) L (shOf nl) 0 0 0)
  case first =>
    have HST := fun (wF : World) (gl nb sb : Nat) => Lib.hid (fun (hu : Upd Nowhere w5 wF) (hI : Blk wF gl csI TI64) (hN : Blk wF nb #[.int .i64 0] TI64) (hS : Blk wF sb #[.slice (some ⟨gl, 0, none⟩) nl.length nl.length] TIs) (h1 : w5.heap.size ≤ gl) (h2 : w5.heap.size ≤ nb) (h3 : w5.heap.size ≤ sb) (h4 : gl ≠ nb) (h5 : gl ≠ sb) (h6 : nb ≠ sb) => k_start H5.out HCS.out rfl (by omega) hu hI hN hS h1 h2 h3 h4 h5 h6)
    go_region
    all_goals
      go_wp2_with fail
      go_meet
      first
        | exact ⟨_, _, w5.heap.size, rfl, rfl, (HST _ _ _ _).out ((((Upd.refl _ _).alloc _).alloc _).alloc _).drew (by first | with_reducible exact (((Blk.new _ _ _).alloc _).alloc _).drew | with_reducible exact ((Blk.new2 _ _ _ _).alloc _).drew | with_reducible exact (blk_new3 _ _ _ _ _).drew) (by first | with_reducible exact (((Blk.new _ _ _).alloc _).alloc _).drew | with_reducible exact ((Blk.new2 _ _ _ _).alloc _).drew | with_reducible exact (blk_new3 _ _ _ _ _).drew) (by first | with_reducible exact (((Blk.new _ _ _).alloc _).alloc _).drew | with_reducible exact ((Blk.new2 _ _ _ _).alloc _).drew | with_reducible exact (blk_new3 _ _ _ _ _).drew) (by omega) (by omega) (by omega) (by omega) (by omega) (by omega)⟩
        | exact ⟨_, _, w5.heap.size + 1, rfl, rfl, (HST _ _ _ _).out ((((Upd.refl _ _).alloc _).alloc _).alloc _).drew (by first | with_reducible exact (((Blk.new _ _ _).alloc _).alloc _).drew | with_reducible exact ((Blk.new2 _ _ _ _).alloc _).drew | with_reducible exact (blk_new3 _ _ _ _ _).drew) (by first | with_reducible exact (((Blk.new _ _ _).alloc _).alloc _).drew | with_reducible exact ((Blk.new2 _ _ _ _).alloc _).drew | with_reducible exact (blk_new3 _ _ _ _ _).drew) (by first | with_reducible exact (((Blk.new _ _ _).alloc _).alloc _).drew | with_reducible exact ((Blk.new2 _ _ _ _).alloc _).drew | with_reducible exact (blk_new3 _ _ _ _ _).drew) (by omega) (by omega) (by omega) (by omega) (by omega) (by omega)⟩
        | exact ⟨_, _, w5.heap.size + 1 + 1, rfl, rfl, (HST _ _ _ _).out ((((Upd.refl _ _).alloc _).alloc _).alloc _).drew (by first | with_reducible exact (((Blk.new _ _ _).alloc _).alloc _).drew | with_reducible exact ((Blk.new2 _ _ _ _).alloc _).drew | with_reducible exact (blk_new3 _ _ _ _ _).drew) (by first | with_reducible exact (((Blk.new _ _ _).alloc _).alloc _).drew | with_reducible exact ((Blk.new2 _ _ _ _).alloc _).drew | with_reducible exact (blk_new3 _ _ _ _ _).drew) (by first | with_reducible exact (((Blk.new _ _ _).alloc _).alloc _).drew | with_reducible exact ((Blk.new2 _ _ _ _).alloc _).drew | with_reducible exact (blk_new3 _ _ _ _ _).drew) (by omega) (by omega) (by omega) (by omega) (by omega) (by omega)⟩
  case rest =>
    obtain ⟨nb, sb, gl, rfl, rfl, hat⟩ := hcut
    obtain ⟨wC, rfl⟩ : ∃ x, x = wc := ⟨_, rfl⟩
    have HAT := Lib.hid hat
    clear hat H5 a0 a1 hlt5 hn1 hn2 hn3 hn4 b0 b1 HCS hmkI
    obtain ⟨i0, gi, gz0, gz1, gz2⟩ := info_parts infoI64
    go_wp2_with fail
    go_loopw [11, 38] (fun tv i wr => ∃ k T m : Nat, i = .int .i64 k ∧ tv = .int .u64 (T : Nat) ∧ k ≤ n ∧ T ≤ 18446744073709551615 ∧ Kat w wr TB nb LB DB sb gl nl.length (.slice ad nl.length cp) L (shOf nl) k m (k * 10000000)) (fun _ i _ => n - (intOf i).toNat)
    case atStart => exact ⟨0, 0, 0, rfl, rfl, Nat.zero_le _, Nat.zero_le _, HAT.out⟩
    case round =>
      obtain ⟨k, T, m, rfl, rfl, hk, hT, ⟨lfv, s, lf, la, last, hM, hkp, hrw, hlk, rfl⟩⟩ := hrel
      obtain ⟨wB, rfl⟩ : ∃ x, x = wr := ⟨_, rfl⟩
      clear HAT
      by_cases hlt : k < n
      · have hI : (k : Int) < n := by omega
        obtain ⟨x, hx⟩ : ∃ x, l[k]? = some x := ⟨l[k]'(by rw [HNL.out]; exact hlt), by simp⟩
        obtain ⟨o1, o2, o3, o4⟩ := HO.out x (List.mem_of_getElem? hx)
        obtain ⟨ga, oa, rfl, ⟨r0, r1, r2, r3, r4, r5⟩, ⟨r1', r2', r3', r4', r5'⟩⟩ := HA.out.get hM.upd hx
        have hM1 := m_blk hM (actA x) TAct
        obtain ⟨p, t, nd, fl, id, len⟩ := x
        simp only at r0 r1 r2 r3 r4 r5 r1' r2' r3' r4' r5' o1 o2 o3 o4
        obtain ⟨XB, hXB⟩ : ∃ XB, wB.heap.size = XB := ⟨_, rfl⟩
        rw [hXB] at hM1
        have HM1 := Lib.hid hM1
        have HXB := Lib.hid hXB
        have HKP := Lib.hid hkp
        have HRW := Lib.hid hrw
        have hkk : k * 10000000 + 20000000 < 18446744073709551615 := by omega
        have hkk2 : (k + 1) * 10000000 = k * 10000000 + 10000000 := Nat.succ_mul k _
        obtain ⟨T2, hT2⟩ : ∃ T2, min (T + t) 18446744073709551615 = T2 := ⟨_, rfl⟩
        have hT3 : T2 ≤ 18446744073709551615 := by omega
        have hadd := fun u => Lib.hid (Sat.ref_add T t hT o1 u)
        rw [hT2] at hadd
        clear hM hM1 hx hXB hkp hrw hT2
        go_upto_region 13 with fail
        have hXB := HXB.out
        try simp only [hXB]
        clear hXB
        generalize wB.alloc (.cells #[.bool p, .int .u64 t, .int .i64 nd, .int .u32 fl, .int .u32 id, .int .u64 len] TAct) = w4 at *
        obtain ⟨x1, x2, x3, x4, x5⟩ := x_cells HM1.out
        simp only at x1 x2 x3 x4 x5
        clear r0 r1 r2 r3 r4 r5 r1' r2' r3' r4' r5'
        go_wp2_with fail
        refine ((hadd _).out).mono ?_
        rintro e w5 ⟨rfl, u5⟩
        have h5 := HM1.out.old u5
        have hc0 : w5.cell? ⟨XB, 0, none⟩ = some (.bool p) := by
          obtain ⟨o, h1, _, _⟩ := Made.foc (blkC XB _ TAct) _ [] h5
          exact h1.1.cellAt rfl
        clear x1 x2 x3 x4 x5
        obtain ⟨x1, x2, x3, x4, x5⟩ := x_cells h5
        simp only at x1 x2 x3 x4 x5
        have H5 := Lib.hid h5
        clear h5 u5 hadd HM1
        cases p with
        | true =>
          have HLV := Lib.hid (leaves_ok (Q := [blkC XB (actA { pop := true, later := t, node := nd, fl := fl, id := id, len := len }) TAct]) HE.out HS.out HG2.out HND.out H5.out HKP.out HRW.out (by omega) hkk hT3)
          go_wp2_with fail
          refine HLV.out.mono ?_
          rintro e w6 ⟨rfl, ⟨s2, lf2, la2, last2, lfv2, hm2, hk2, hr2, hl2, _⟩⟩
          have H6 : Hid (Kat w w6 TB nb LB DB sb gl nl.length (.slice ad nl.length cp) L (shOf nl) (k + 1) s2.m ((k + 1) * 10000000)) := Lib.hid ⟨lfv2, s2, lf2, la2, last2, by rw [hkk2]; exact hm2.drop, hk2, hr2, by omega, rfl⟩
          clear hm2 hk2 hr2 hl2 HLV H5 hc0 x1 x2 x3 x4 x5
          go_wp2_with fail
          go_roundw
          case rel => exact ⟨k + 1, T2, _, by first | rfl | go_num, rfl, by omega, hT3, H6.out⟩
          case measure => simp [intOf]; omega
        | false =>
          obtain ⟨N1, hN1⟩ : ∃ N1, lf.length + 1 = N1 := ⟨_, rfl⟩
          have hn1 : (lf.length : Int) + 1 = (N1 : Int) := by omega
          have hn2 : N1 ≤ 151 := by omega
          have hn3 : IntKind.u32.wrap (N1 : Int) = (N1 : Int) := by rw [IntKind.wrap_u32]; omega
          obtain ⟨_, _, _, hgs⟩ : ∃ A o, Made w w5 (([blkC XB (actA { pop := false, later := t, node := nd, fl := fl, id := id, len := len }) TAct] ++ A) ++ treeC L (shOf nl) 100 s (k * 10000000) :: []) ∧ Good (shOf nl) 100 s := by
            obtain ⟨A, hA, _⟩ := k_tree (Q := [blkC XB (actA { pop := false, later := t, node := nd, fl := fl, id := id, len := len }) TAct]) H5.out
            obtain ⟨o, _, hg⟩ := m_tree _ _ hA
            exact ⟨A, o, hA, hg⟩
          have hpt := push_tells HS.out hgs HKP.out HRW.out.le hT3 nd fl len o2 (by omega)
          rw [hN1] at hpt
          obtain ⟨v, s', hv, hor⟩ := hpt
          have HOR := Lib.hid hor
          obtain ⟨c0, ⟨c1, c2⟩, ⟨c3, c4⟩, c5, c6⟩ := k_read (Q := [blkC XB (actA { pop := false, later := t, node := nd, fl := fl, id := id, len := len }) TAct]) H5.out
          obtain ⟨av, cv, rfl⟩ := k_form (Q := [blkC XB (actA { pop := false, later := t, node := nd, fl := fl, id := id, len := len }) TAct]) H5.out
          have h6 := m_blk H5.out #[.int .u32 fl, .int .u32 (N1 : Nat), .int .u64 len] TPk
          have HN1' := Lib.hid hN1
          have HGS := Lib.hid hgs
          clear hor hN1 hgs
          go_upto_region 18 with fail
          generalize w5.alloc (.cells #[.int .u32 fl, .int .u32 (N1 : Nat), .int .u64 len] TPk) = w6 at *
          obtain ⟨PB, hPB⟩ : ∃ PB, w5.heap.size = PB := ⟨_, rfl⟩
          rw [hPB] at h6
          try simp only [hPB]
          clear hPB c0 c1 c2 c3 c4 c5 c6 x1 x2 x3 x4 x5 hc0 H5
          have H6 : Hid (Made w w6 ([blkC PB #[.int .u32 fl, .int .u32 (N1 : Nat), .int .u64 len] TPk, blkC XB (actA { pop := false, later := t, node := nd, fl := fl, id := id, len := len }) TAct] ++ keepL TB nb LB DB sb gl nl.length (.slice av lf.length cv) (.slice ad nl.length cp) L (shOf nl) s.m lf la s (k * 10000000))) := Lib.hid h6
          obtain ⟨c0, ⟨c1, c2⟩, ⟨c3, c4⟩, c5, c6⟩ := k_read (Q := [blkC PB #[.int .u32 fl, .int .u32 (N1 : Nat), .int .u64 len] TPk, blkC XB (actA { pop := false, later := t, node := nd, fl := fl, id := id, len := len }) TAct]) h6
          obtain ⟨_, hq, _, _⟩ := Made.foc (blkC PB #[.int .u32 fl, .int .u32 (N1 : Nat), .int .u64 len] TPk) _ [] h6
          obtain ⟨p0, p1, p2, -⟩ := cells3 hq.1
          obtain ⟨_, hq2, _, _⟩ := Made.foc (blkC XB (actA { pop := false, later := t, node := nd, fl := fl, id := id, len := len }) TAct) _ [_] h6
          have x2 : w6.cell? ⟨XB, 2, none⟩ = some (.int .i64 nd) := hq2.1.cellAt rfl
          obtain ⟨A, hA, hback⟩ := k_tree (Q := [blkC PB #[.int .u32 fl, .int .u32 (N1 : Nat), .int .u64 len] TPk, blkC XB (actA { pop := false, later := t, node := nd, fl := fl, id := id, len := len }) TAct]) h6
          have HP := Lib.hid (m_push _ _ hA HE.out HS.out (by omega) hkk hT3 nd fl N1 len o2 (by omega) o4 hv)
          have HBK := Lib.hid hback
          clear hA hback hv hq hq2 h6
          go_wp2_with fail
          refine HP.out.mono ?_
          rintro e w7 ⟨rfl, h7⟩
          have H7 := Lib.hid (HBK.out w7 s' (k * 10000000 + 10000000) h7)
          clear h7 HP HBK c0 c1 c2 c3 c4 c5 c6 p0 p1 p2 x2 H6
          rcases HOR.out with ⟨hv0, hkp2, hm2⟩ | ⟨hv0, hnd0, hndn, hkp2, hm2⟩
          · have q0 : ((v : Int) == 0) = false := by simp; omega
            have H8 : Hid (Kat w w7 TB nb LB DB sb gl nl.length (.slice ad nl.length cp) L (shOf nl) (k + 1) s'.m ((k + 1) * 10000000)) := Lib.hid ⟨_, s', lf, la, last, by rw [hkk2, hm2]; exact H7.out.drop.drop, hkp2, HRW.out, by omega, rfl⟩
            clear hkp2 hm2 hv0 HOR H7
            go_wp2_with fail
            go_roundw
            case rel => exact ⟨k + 1, T2, _, by first | rfl | go_num, rfl, by omega, hT3, H8.out⟩
            case measure => simp [intOf]; omega
          · subst hv0
            have q0 : (((0 : Nat) : Int) == 0) = true := rfl
            obtain ⟨c0, ⟨c1, c2⟩, ⟨c3, c4⟩, c5, c6⟩ := k_read (Q := [blkC PB #[.int .u32 fl, .int .u32 (N1 : Nat), .int .u64 len] TPk, blkC XB (actA { pop := false, later := t, node := nd, fl := fl, id := id, len := len }) TAct]) H7.out
            obtain ⟨_, hrow, _, _⟩ := Made.at_ (A := [_, _, _]) (C := rowW TI64 1 (.slice av lf.length cv) lf.length (lf.map (fun x => .int .i64 x))) [blkC PB #[.int .u32 fl, .int .u32 (N1 : Nat), .int .u64 len] TPk, blkC XB (actA { pop := false, later := t, node := nd, fl := fl, id := id, len := len }) TAct] H7.out
            have HROW := Lib.hid hrow.1
            obtain ⟨_, hq2, _, _⟩ := Made.foc (blkC XB (actA { pop := false, later := t, node := nd, fl := fl, id := id, len := len }) TAct) _ [_] H7.out
            have x2 : w7.cell? ⟨XB, 2, none⟩ = some (.int .i64 nd) := hq2.1.cellAt rfl
            have HKP2 := Lib.hid hkp2
            have HM2 := Lib.hid hm2
            have HRW2 := Lib.hid (HRW.out.push hnd0)
            have hlf9 : lf.length ≤ 999999999 := by omega
            clear hrow hq2 hkp2 hm2 HOR
            obtain ⟨m1, hm1⟩ : ∃ m1, s.m + 1 = m1 := ⟨_, rfl⟩
            have hm100 : s.m ≤ 100 := HGS.out.le
            have hm2 : (s.m : Int) + 1 = (m1 : Int) := by omega
            have hm3 : m1 ≤ 101 := by omega
            have HM4 : Hid (s'.m = m1) := Lib.hid (by rw [HM2.out, hm1])
            clear hm1
            go_wp2_with (at_builtin; go_loud (refine wpList_push rfl _ _ 32 rfl 0 TI64 i0 (.int .i64 0) 1 8 Tryd.underlying32 gi gz0 gz1 gz2 rfl (by decide) (by decide) (.slice av lf.length cv) lf.length _ rfl (ownsRow_upd HROW.out ((Upd.refl Nowhere w7).alloc _) (fun _ _ h => h)) w7.heap.size 1 [.int .i64 nd] rfl rfl (new_cells w7 #[.int .i64 nd] _) (by simp [Value.oneCell']) hlf9 (Nat.zero_le _) ?_; intro v8 w8 ho8 hu8 hn8; obtain ⟨a8, c8, rfl⟩ : ∃ a8 c8, v8 = .slice a8 (lf.length + 1) c8 := (by rcases ho8.2 with ⟨_, h9⟩ | ⟨g, c, cur, rfl, _⟩; (exact absurd h9 (Nat.succ_ne_zero _)); (exact ⟨_, _, rfl⟩)); have h8 := Lib.hid (k_push (Q := [blkC PB #[.int .u32 fl, .int .u32 (N1 : Nat), .int .u64 len] TPk, blkC XB (actA { pop := false, later := t, node := nd, fl := fl, id := id, len := len }) TAct]) H7.out ((Upd.refl _ _).alloc _) ho8 hu8 hn8); obtain ⟨y0, y1, y2, y3, y4⟩ := h8.out.2; have y5 : ¬ LB = nb := fun h => y4 h.symm;  clear ho8 hu8 hn8))
            have H10 := k_setn (Q := [blkC PB #[.int .u32 fl, .int .u32 (N1 : Nat), .int .u64 len] TPk, blkC XB (actA { pop := false, later := t, node := nd, fl := fl, id := id, len := len }) TAct]) h8.out.1 m1
            have H11 : Hid (Made w ((w8.setCell ⟨LB, 0, none⟩ (.slice a8 (lf.length + 1) c8)).setCell ⟨nb, 0, none⟩ (.int .i64 (m1 : Nat))) ([] ++ keepL TB nb LB DB sb gl nl.length (.slice a8 (lf.length + 1) c8) (.slice ad nl.length cp) L (shOf nl) s'.m (lf ++ [nd]) la s' ((k + 1) * 10000000))) := Lib.hid (by rw [hkk2, HM4.out]; exact H10.drop.drop)
            have H12 : Hid (Kat w ((w8.setCell ⟨LB, 0, none⟩ (.slice a8 (lf.length + 1) c8)).setCell ⟨nb, 0, none⟩ (.int .i64 (m1 : Nat))) TB nb LB DB sb gl nl.length (.slice ad nl.length cp) L (shOf nl) (k + 1) s'.m ((k + 1) * 10000000)) := Lib.hid ⟨_, s', lf ++ [nd], la, last, H11.out, HKP2.out, HRW2.out, by rw [List.length_append]; show lf.length + 1 ≤ k + 1; omega, rfl⟩
            clear H10 H11 h8
            go_roundw
            case rel => exact ⟨k + 1, T2, _, by first | rfl | go_num, rfl, by omega, hT3, H12.out⟩
            case measure => simp [intOf]; omega
      · obtain rfl : k = n := by omega
        have hI : ¬ (k : Int) < k := by omega
        obtain ⟨c0, ⟨c1, c2⟩, _, _, _⟩ := k_read hM
        obtain ⟨A, hA, _⟩ := k_tree hM
        obtain ⟨_, _, hgs⟩ := m_tree _ _ hA
        have hm100 : s.m ≤ 100 := hgs.le
        obtain ⟨m0, hm0⟩ : ∃ m0, s.m = m0 := ⟨_, rfl⟩
        have hat2 : Kat w wB TB nb LB DB sb gl nl.length (.slice ad nl.length cp) L (shOf nl) k (m0 - 0) ((k + 0) * 10000000) := ⟨lfv, s, lf, la, last, hM, hkp, hrw, hlk, by omega⟩
        have HAT2 := Lib.hid hat2
        rw [hm0] at c1 hm100
        clear hA hgs hat2 hM hkp hrw hlk hm0
        go_wp2_with fail
        go_loopw [79] (fun i wr => ∃ j : Nat, i = .int .i64 j ∧ j ≤ m0 ∧ Kat w wr TB nb LB DB sb gl nl.length (.slice ad nl.length cp) L (shOf nl) k (m0 - j) ((k + j) * 10000000)) (fun i _ => m0 - (intOf i).toNat)
        case atStart => exact ⟨0, rfl, Nat.zero_le _, HAT2.out⟩
        case round =>
          obtain ⟨j, rfl, hj, ⟨lfv, s, lf, la, last, hM, hkp, hrw, hlk, hsm⟩⟩ := hrel
          obtain ⟨wD, rfl⟩ : ∃ x, x = wr := ⟨_, rfl⟩
          clear HAT2 c0 c1 c2
          obtain ⟨c0, ⟨c1, c2⟩, _, _, _⟩ := k_read hM
          by_cases hjl : j < m0
          · have hI2 : (j : Int) < m0 := by omega
            obtain ⟨r, hr⟩ : ∃ r, s.m = r + 1 := ⟨s.m - 1, by omega⟩
            obtain ⟨R, hR⟩ : ∃ R, r + 1 = R := ⟨_, rfl⟩
            rw [hr, hR] at c1
            have hR2 : (R : Int) - 1 = (r : Int) := by omega
            have hR3 : R ≤ 100 := by omega
            have hkk : (k + j) * 10000000 + 20000000 < 18446744073709551615 := by
              have : (k + j) * 10000000 ≤ 250 * 10000000 := Nat.mul_le_mul_right _ (by omega)
              omega
            have HLV := Lib.hid (leaves_ok (Q := []) (t := 18446744073709551615) HE.out HS.out HG2.out HND.out hM hkp hrw (by omega) hkk (Nat.le_refl _))
            have HSM : Hid (s.m = r + 1) := Lib.hid hr
            have HLK := Lib.hid hlk
            have HMJ : Hid (r = m0 - (j + 1)) := Lib.hid (by omega)
            have hc9 : (k + (j + 1)) * 10000000 = (k + j) * 10000000 + 10000000 := by rw [← Nat.add_assoc]; exact Nat.succ_mul _ _
            have HC9 := Lib.hid hc9
            clear hM hkp hrw hlk hsm hr hc9 hR
            go_wp2_with fail
            refine HLV.out.mono ?_
            rintro e w6 ⟨rfl, ⟨s2, lf2, la2, last2, lfv2, hm2, hk2, hr2, hl2, hlast⟩⟩
            have hs2 : s2.m = r := by have := hlast rfl; have := HSM.out; omega
            obtain ⟨d0, ⟨d1, d2⟩, _, _, _⟩ := k_read hm2
            rw [hs2] at d1
            have H6 : Hid (Kat w w6 TB nb LB DB sb gl nl.length (.slice ad nl.length cp) L (shOf nl) k (m0 - (j + 1)) ((k + (j + 1)) * 10000000)) := Lib.hid ⟨lfv2, s2, lf2, la2, last2, by rw [HC9.out]; exact hm2, hk2, hr2, by have := HLK.out; omega, by have := HMJ.out; omega⟩
            have q1 : ((r : Int) != (r : Int)) = false := by simp
            have q2 : ((r : Int) == (r : Int)) = true := by simp
            clear hm2 hk2 hr2 hl2 HLV c0 c1 c2 hs2 hlast
            go_wp2_with fail
            go_roundw
            case rel => exact ⟨j + 1, by first | rfl | go_num, by omega, H6.out⟩
            case measure => simp [intOf]; omega
          · obtain rfl : j = m0 := by omega
            have hI2 : ¬ (j : Int) < j := by omega
            have hs0 : s.m = 0 := by omega
            obtain ⟨A, hA, _⟩ := k_tree hM
            obtain ⟨_, hti, hgs⟩ := m_tree _ _ hA
            have hH0 : s.H.length = 0 := by have h9 := hgs.tot; unfold Tot at h9; omega
            have hu := hM.upd
            have HLE : ∀ u, (Upd Nowhere wD u ∧ u.cell? ⟨TB, 0, none⟩ = some (.pointer (some ⟨L.b, 0, none⟩))) → Hid (Calls Tryd.prog 18 #[.pointer (some ⟨L.b, 0, none⟩)] u fun e w' => e = .returned (.int .i64 0) ∧ Upd Nowhere u w') := fun u hS => Lib.hid (by
              have h9 := len_ok (hti.old hS.1)
              rw [hs0] at h9
              exact h9.mono fun e w' ⟨x, y⟩ => ⟨x, y ▸ Upd.refl _ _⟩)
            have HHE : ∀ u, (Upd Nowhere wD u ∧ u.cell? ⟨TB, 0, none⟩ = some (.pointer (some ⟨L.b, 0, none⟩))) → Hid (Calls Tryd.prog 20 #[.pointer (some ⟨L.b, 0, none⟩)] u fun e w' => e = .returned (.int .i64 0) ∧ Upd Nowhere u w') := fun u hS => Lib.hid (by
              have h9 := held_ok (hti.old hS.1)
              rw [hH0] at h9
              exact h9.mono fun e w' ⟨x, y⟩ => ⟨x, y ▸ Upd.refl _ _⟩)
            have HLV : ∀ u, (Upd Nowhere wD u ∧ u.cell? ⟨TB, 0, none⟩ = some (.pointer (some ⟨L.b, 0, none⟩))) → Hid (Calls Tryd.prog 10 #[] u fun e w' => e = .returned (.bool true) ∧ Upd Nowhere u w') := fun u hS => HL u (hu.trans hS.1 (fun _ _ h => h))
            have HU := Lib.hid hu
            have hS0 : Upd Nowhere wD wD.drew ∧ wD.drew.cell? ⟨TB, 0, none⟩ = some (.pointer (some ⟨L.b, 0, none⟩)) := ⟨(Upd.refl _ _).drew, c0⟩
            clear hA hgs hti hH0 hu hM hkp hrw hlk hsm HL c1 c2 hs0 HE HA HO HNL HS HG2 HND hmf
            go_upto_region 28 with fail
            go_region_held3 (fun w' => Upd Nowhere wD w' ∧ w'.cell? ⟨TB, 0, none⟩ = some (.pointer (some ⟨L.b, 0, none⟩))) (first | exact hS0 | assumption) (first
              | (go_at_call 18; refine (keepC1 (HLE _ (by assumption)).out (by assumption)).mono ?_; rintro e w11 ⟨rfl, hS11⟩)
              | (go_at_call 20; refine (keepC1 (HHE _ (by assumption)).out (by assumption)).mono ?_; rintro e w12 ⟨rfl, hS12⟩)
              | (go_at_call 10; refine (keepC1 (HLV _ (by assumption)).out (by assumption)).mono ?_; rintro e w13 ⟨rfl, hS13⟩))
            all_goals
              rename_i hSF
              go_wp2_with fail
              go_ret
              exact ⟨rfl, HU.out.trans hSF.1 (fun _ _ h => h)⟩
theorem keeps_law (v : Value) (nl : List Nd) (hfn : ∀ a ∈ nl, a.wt ≤ 18446744073709551615 ∧ a.gap ≤ 18446744073709551615) (v2 : Value) (l : List Act) (hok : ∀ a ∈ l, a.later ≤ 18446744073709551615 ∧ a.fl ≤ 4294967295 ∧ a.id ≤ 4294967295 ∧ a.len ≤ 18446744073709551615) (w : World) (hv : RowsAt w v nl.length (nl.flatMap nd)) (hv2 : RowsAt w v2 l.length (l.flatMap act)) (E : Env w) :
    Calls Tryd.prog 7 #[v, v2] w fun e w' => e = .returned (.bool true) ∧ Upd Nowhere w w' := by
  obtain ⟨ad, c, rfl, hn⟩ := nodes_of hv
  obtain ⟨ad2, c2, rfl, ha⟩ := acts_of hv2
  have hok2 : ∀ a ∈ l, a.Ok := fun a h => ⟨(hok a h).1, Nat.lt_succ_of_le (hok a h).2.1, Nat.lt_succ_of_le (hok a h).2.2.1, (hok a h).2.2.2⟩
  by_cases h : (decide (40 < nl.length ∨ 150 < l.length) || !goodN nl) = true
  · exact keeps_no ad c nl ad2 l.length c2 w E hn h
  · have h1 : ¬ (40 < nl.length ∨ 150 < l.length) := fun h9 => h (by rw [decide_eq_true h9]; rfl)
    have h2 : goodN nl = true := by revert h; cases goodN nl <;> simp
    exact keeps_walk ad c nl ad2 c2 l w E hn h2 hfn (by omega) (by omega) ha hok2
end Go.Proofs.YtllfloapiliheaaDoor.Tree
