/- TreeCore, TreeDefs, TreePlain, TreePlain2, TreeRank, TreeCome, TreePass0, TreePass, TreeNil, TreePush, TreeDown, TreePop, TreeCheck, TreeNew0, TreeNew, TreeMade, TreeLives, one behind the other. -/
import Derived.Test.YtllfloapiliheaaDoorMHeapE
import Derived.Test.YtllfloapiliheaaDoorMWheelR
import Derived.Test.YtllfloapiliheaaDoorSepRow
import Derived.Test.YtllfloapiliheaaDoorSat2
import Derived.Deep.RegionWith
import Derived.Deep.DeepCutAuto
import Derived.Deep.RegionHeld3
import Derived.Deep.LoopGhost
import Derived.Laws.EntriesVeiled
import Derived.Test.YtllfloapiliheaaDoorLaws
import Derived.Deep.RegionLaw
import Derived.Test.YtllfloapiliheaaDoorMade
namespace Go.Proofs.YtllfloapiliheaaDoor
open Go.RowKit
/-- Things by number, behind others: one of them. -/
theorem Sep.nth {w : World} {own : Nat → Prop} (P : List Comp) (f : Nat → Comp) {r : List Nat} {i : Nat} (h : Sep w (P ++ r.map f) own) (hi : i ∈ r) (hr : r.Nodup) :
    ∃ o, (f i).P w o ∧ (∀ k, o k → own k) ∧ ∀ (w' : World) (o' : Nat → Prop) (C' : Comp), C'.P w' o' → Fol w o w' o' → ∃ own', Sep w' (P ++ r.map (fun k => if k = i then C' else f k)) own' ∧ Fol w own w' own' := by
  obtain ⟨r1, r2, rfl⟩ := List.append_of_mem hi
  rw [List.map_append, List.map_cons, ← List.append_assoc] at h
  obtain ⟨o, h1, h2, h3⟩ := Sep.foc _ _ _ h
  refine ⟨o, h1, h2, fun w' o' C' hC hf => ?_⟩
  obtain ⟨own', a1, a2⟩ := h3 w' o' C' hC hf
  refine ⟨own', ?_, a2⟩
  have hn := List.nodup_append.1 hr
  have e1 : r1.map (fun k => if k = i then C' else f k) = r1.map f := List.map_congr_left fun k hk => if_neg (hn.2.2 k hk i (List.mem_cons_self ..))
  have e2 : r2.map (fun k => if k = i then C' else f k) = r2.map f := List.map_congr_left fun k hk => if_neg (fun (e : k = i) => (List.nodup_cons.1 hn.2.1).1 (e ▸ hk))
  rw [List.map_append, List.map_cons, ← List.append_assoc, e1, e2, if_pos rfl]
  exact a1
theorem Sep.imps {w : World} (f f' : Nat → Comp) : ∀ {r : List Nat} {own : Nat → Prop}, (∀ k ∈ r, ∀ o, (f k).P w o → (f' k).P w o) → Sep w (r.map f) own → Sep w (r.map f') own
  | [], _, _, h => h
  | k :: _, _, hf, ⟨o, o', h1, h2, h3⟩ => ⟨o, o', hf k (List.mem_cons_self ..) o h1, Sep.imps f f' (fun j hj => hf j (List.mem_cons_of_mem _ hj)) h2, h3⟩
theorem Sep.impsP {w : World} (f f' : Nat → Comp) {r : List Nat} (hf : ∀ k ∈ r, ∀ o, (f k).P w o → (f' k).P w o) : ∀ (P : List Comp) {own : Nat → Prop}, Sep w (P ++ r.map f) own → Sep w (P ++ r.map f') own
  | [], _, h => Sep.imps f f' hf h
  | _ :: P, _, ⟨o, o', h1, h2, h3⟩ => ⟨o, o', h1, Sep.impsP f f' hf P h2, h3⟩
theorem Sep.imp1 {w : World} {C C' : Comp} (hc : ∀ o, C.P w o → C'.P w o) : ∀ (P : List Comp) {l : List Comp} {own : Nat → Prop}, Sep w (P ++ C :: l) own → Sep w (P ++ C' :: l) own
  | [], _, _, ⟨o, o', h1, h2, h3⟩ => ⟨o, o', hc o h1, h2, h3⟩
  | _ :: P, _, _, ⟨o, o', h1, h2, h3⟩ => ⟨o, o', h1, Sep.imp1 hc P h2, h3⟩
theorem flat_len {α : Type} {W : Nat} (f : Nat → List α) (hf : ∀ i, (f i).length = W) : ∀ n, ((List.range n).flatMap f).length = n * W
  | 0 => by simp
  | n + 1 => by rw [List.range_succ, List.flatMap_append, List.length_append, flat_len f hf n]; simp [hf, Nat.succ_mul]
theorem flat_get {α : Type} {W : Nat} (f : Nat → List α) (hf : ∀ i, (f i).length = W) {i j : Nat} (hj : j < W) : ∀ {n : Nat}, i < n → ((List.range n).flatMap f)[i * W + j]? = (f i)[j]?
  | n + 1, hi => by
    rw [List.range_succ, List.flatMap_append]
    have hl := flat_len f hf n
    rcases Nat.lt_or_ge i n with h | h
    · rw [List.getElem?_append_left (by rw [hl]; calc i * W + j < (i + 1) * W := by rw [Nat.succ_mul]; omega
        _ ≤ n * W := Nat.mul_le_mul_right _ h), flat_get f hf hj h]
    · have e : i = n := by omega
      subst e
      rw [List.getElem?_append_right (by rw [hl]; omega), hl, show i * W + j - i * W = j by omega]
      simp
theorem flat_set {α : Type} {W : Nat} (f : Nat → List α) (hf : ∀ i, (f i).length = W) {i j : Nat} (hj : j < W) (u : α) : ∀ {n : Nat}, i < n → ((List.range n).flatMap f).set (i * W + j) u = (List.range n).flatMap (fun k => if k = i then (f i).set j u else f k)
  | n + 1, hi => by
    rw [List.range_succ, List.flatMap_append, List.flatMap_append, List.set_append]
    have hl := flat_len f hf n
    rcases Nat.lt_or_ge i n with h | h
    · rw [if_pos (by rw [hl]; calc i * W + j < (i + 1) * W := by rw [Nat.succ_mul]; omega
        _ ≤ n * W := Nat.mul_le_mul_right _ h), flat_set f hf hj u h]
      congr 1
      simp [show ¬ n = i by omega]
    · have e : i = n := by omega
      subst e
      rw [if_neg (by rw [hl]; omega), hl, show i * W + j - i * W = j by omega]
      congr 1
      · rw [List.flatMap_def, List.flatMap_def]
        congr 1
        exact List.map_congr_left fun k hk => (if_neg (by rw [List.mem_range] at hk; omega)).symm
      · simp
namespace Tree
open HeapE (El Hq VE heapC)
open WheelR (Ri Wq wheelC)
/-- A tree's shape. -/
structure Sh where
  n : Nat
  par : Nat → Nat
  kind : Nat → Nat
  wt : Nat → Nat
  gap : Nat → Nat
  leaf : Nat → Bool
/-- A tree's state. -/
structure TS where
  q : Nat → List (Nat × El)
  vi : Nat → Nat
  tg : Nat → Nat
  fr : Nat → Nat
  H : List (Nat × Ri)
  wn : Nat
  now : Nat
  m : Nat
  c : Nat
/-- Where it lies. -/
structure Lay where
  b : Nat
  g : Nat
  cap : Nat
  hb : Nat
  bs : Nat → Nat
abbrev TT : TypeId := 77
abbrev TN : TypeId := 84
abbrev TE : TypeId := 82
def up {α : Type} (f : Nat → α) (i : Nat) (x : α) : Nat → α := fun k => if k = i then x else f k
theorem up_at {α : Type} (f : Nat → α) (i : Nat) (x : α) : up f i x i = x := if_pos rfl
theorem up_off {α : Type} (f : Nat → α) {i k : Nat} (h : k ≠ i) (x : α) : up f i x k = f k := if_neg h
/-- A node's cells. -/
def ncell (L : Lay) (sh : Sh) (s : TS) (i : Nat) : List Value := [.int .i64 (sh.par i : Nat), .int .i64 (sh.kind i : Nat), .int .u64 (sh.wt i : Nat), .int .u64 (sh.gap i : Nat), .bool (sh.leaf i), .pointer (some ⟨L.bs i, 0, none⟩), .int .u64 (s.vi i : Nat), .int .u64 (s.tg i : Nat), .int .u64 (s.fr i : Nat)]
def tcell (L : Lay) (sh : Sh) (room : Nat) (s : TS) : Array Value := #[.slice (some ⟨L.g, 0, none⟩) sh.n L.cap, .pointer (some ⟨L.hb, 0, none⟩), .int .u64 (s.now : Nat), .int .i64 (s.m : Nat), .int .i64 (room : Nat)]
def tops (L : Lay) (sh : Sh) (room : Nat) (s : TS) : List Comp := [blkC L.b (tcell L sh room s) TT, rowW TN 9 (.slice (some ⟨L.g, 0, none⟩) sh.n L.cap) sh.n ((List.range sh.n).flatMap (ncell L sh s)), wheelC L.hb room s.wn s.c s.H]
def qs (L : Lay) (room : Nat) (s : TS) (i : Nat) : Comp := heapC (L.bs i) room s.c (s.q i)
/-- A tree in memory. -/
def TIn (w : World) (own : Nat → Prop) (L : Lay) (sh : Sh) (room : Nat) (s : TS) : Prop := Sep w (tops L sh room s ++ (List.range sh.n).map (qs L room s)) own
section
variable {w w' : World} {own : Nat → Prop} {L : Lay} {sh : Sh} {room : Nat} {s : TS}
theorem TIn.old (h : TIn w own L sh room s) (hu : Upd Nowhere w w') : TIn w' own L sh room s := Sep.old h hu
theorem TIn.kept (h : TIn w own L sh room s) {S : Nat → Prop} (hu : Upd S w w') (hS : ∀ k, own k → ¬ S k) : TIn w' own L sh room s := Sep.kp hu h hS
theorem TIn.lt (h : TIn w own L sh room s) {k : Nat} (hk : own k) : k < w.heap.size := Sep.lt h hk
theorem TIn.blk (h : TIn w own L sh room s) : Blk w L.b (tcell L sh room s) TT := by
  obtain ⟨o, o', h1, _⟩ := h; exact h1.1
theorem TIn.row (h : TIn w own L sh room s) : ∃ o, (rowW TN 9 (.slice (some ⟨L.g, 0, none⟩) sh.n L.cap) sh.n ((List.range sh.n).flatMap (ncell L sh s))).P w o := by
  obtain ⟨_, _, _, ⟨o, _, h1, _⟩, _⟩ := h; exact ⟨o, h1⟩
theorem ncell_len (i : Nat) : (ncell L sh s i).length = 9 := rfl
theorem TIn.cell (h : TIn w own L sh room s) {i j : Nat} (hi : i < sh.n) {v : Value} (hv : (ncell L sh s i)[j]? = some v) : w.cell? ⟨L.g, i * 9 + j, none⟩ = some v ∧ w.frozen? ⟨L.g, i * 9 + j, none⟩ = false := by
  obtain ⟨o, h1⟩ := h.row
  have hj : j < 9 := by
    rcases Nat.lt_or_ge j 9 with h' | h'
    · exact h'
    · rw [List.getElem?_eq_none (by rw [ncell_len]; exact h')] at hv; cases hv
  exact rowW_cell h1 (by rw [flat_get _ ncell_len hj hi]; exact hv)
theorem TIn.more (h : TIn w own L sh room s) {c : Nat} (hc : s.c ≤ c) : TIn w own L sh room { s with c := c } := by
  have h1 := Sep.impsP (qs L room s) (qs L room { s with c := c }) (fun k _ o (hk : Hq w _ o _ _ _) => (hk.more hc : Hq w (L.bs k) o room c (s.q k))) _ h
  exact Sep.imp1 (P := [blkC L.b (tcell L sh room s) TT, rowW TN 9 (.slice (some ⟨L.g, 0, none⟩) sh.n L.cap) sh.n ((List.range sh.n).flatMap (ncell L sh s))]) (C := wheelC L.hb room s.wn s.c s.H) (C' := wheelC L.hb room s.wn c s.H) (fun o (hk : Wq w _ o _ _ _ _) => (hk.more hc : Wq w L.hb o room s.wn c s.H)) h1
/-- A node's heap. -/
theorem TIn.heap (h : TIn w own L sh room s) {i : Nat} (hi : i < sh.n) : ∃ o, Hq w (L.bs i) o room s.c (s.q i) ∧ (∀ k, o k → own k) ∧
    ∀ (w' : World) (o' : Nat → Prop) (c' : Nat) (q' : List (Nat × El)), s.c ≤ c' → Hq w' (L.bs i) o' room c' q' → Fol w o w' o' → ∃ own', TIn w' own' L sh room { s with q := up s.q i q', c := c' } ∧ Fol w own w' own' := by
  obtain ⟨o, h1, h2, h3⟩ := Sep.nth _ _ h (List.mem_range.2 hi) List.nodup_range
  refine ⟨o, h1, h2, fun w' o' c' q' hc hq hf => ?_⟩
  obtain ⟨own', a1, a2⟩ := h3 w' o' (heapC (L.bs i) room c' q') hq hf
  refine ⟨own', ?_, a2⟩
  have b1 := Sep.impsP (w := w') _ (qs L room { s with q := up s.q i q', c := c' }) (fun k _ o hk => by
    by_cases e : k = i
    · subst e
      rw [if_pos rfl] at hk
      show Hq w' (L.bs k) o room c' (up s.q k q' k)
      rw [up_at]; exact hk
    · rw [if_neg e] at hk
      show Hq w' (L.bs k) o room c' (up s.q i q' k)
      rw [up_off _ e]
      exact (show Hq w' (L.bs k) o room s.c (s.q k) from hk).more hc) _ a1
  exact Sep.imp1 (P := [blkC L.b (tcell L sh room s) TT, rowW TN 9 (.slice (some ⟨L.g, 0, none⟩) sh.n L.cap) sh.n ((List.range sh.n).flatMap (ncell L sh s))]) (C := wheelC L.hb room s.wn s.c s.H) (C' := wheelC L.hb room s.wn c' s.H) (fun o (hk : Wq w' _ o _ _ _ _) => (hk.more hc : Wq w' L.hb o room s.wn c' s.H)) b1
/-- What is held. -/
theorem TIn.wheel (h : TIn w own L sh room s) : ∃ o, Wq w L.hb o room s.wn s.c s.H ∧ (∀ k, o k → own k) ∧
    ∀ (w' : World) (o' : Nat → Prop) (wn' c' : Nat) (H' : List (Nat × Ri)), s.c ≤ c' → Wq w' L.hb o' room wn' c' H' → Fol w o w' o' → ∃ own', TIn w' own' L sh room { s with wn := wn', H := H', c := c' } ∧ Fol w own w' own' := by
  obtain ⟨o, h1, h2, h3⟩ := Sep.foc (wheelC L.hb room s.wn s.c s.H) ((List.range sh.n).map (qs L room s)) [blkC L.b (tcell L sh room s) TT, rowW TN 9 (.slice (some ⟨L.g, 0, none⟩) sh.n L.cap) sh.n ((List.range sh.n).flatMap (ncell L sh s))] h
  refine ⟨o, h1, h2, fun w' o' wn' c' H' hc hq hf => ?_⟩
  obtain ⟨own', a1, a2⟩ := h3 w' o' (wheelC L.hb room wn' c' H') hq hf
  refine ⟨own', ?_, a2⟩
  have e : ∀ (A B C : Comp) (l : List Comp), [A, B] ++ C :: l = [A, B, C] ++ l := fun _ _ _ _ => rfl
  rw [e] at a1
  exact Sep.impsP (w := w') _ (qs L room { s with wn := wn', H := H', c := c' }) (fun k _ o hk => (show Hq w' (L.bs k) o room s.c (s.q k) from hk).more hc) _ a1
/-- One cell of a node, written. -/
theorem TIn.set (h : TIn w own L sh room s) {i j : Nat} (hi : i < sh.n) (hj : j < 9) (u : Value) (sh' : Sh) (s' : TS) (hn : sh'.n = sh.n)
    (hc : ∀ k, ncell L sh' s' k = if k = i then (ncell L sh s i).set j u else ncell L sh s k) (hb : tcell L sh' room s' = tcell L sh room s) (hw : wheelC L.hb room s'.wn s'.c s'.H = wheelC L.hb room s.wn s.c s.H) (hq : qs L room s' = qs L room s) :
    ∃ own', TIn (w.setCell ⟨L.g, i * 9 + j, none⟩ u) own' L sh' room s' ∧ Fol w own (w.setCell ⟨L.g, i * 9 + j, none⟩ u) own' := by
  obtain ⟨o, h1, h2, h3⟩ := Sep.foc (rowW TN 9 (.slice (some ⟨L.g, 0, none⟩) sh.n L.cap) sh.n ((List.range sh.n).flatMap (ncell L sh s))) (wheelC L.hb room s.wn s.c s.H :: (List.range sh.n).map (qs L room s)) [blkC L.b (tcell L sh room s) TT] h
  obtain ⟨b1, b2⟩ := rowW_set h1 (i * 9 + j) u
  obtain ⟨own', a1, a2⟩ := h3 _ _ _ b1 b2
  refine ⟨own', ?_, a2⟩
  rw [flat_set _ ncell_len hj u hi] at a1
  have e : (fun k => if k = i then (ncell L sh s i).set j u else ncell L sh s k) = ncell L sh' s' := funext fun k => (hc k).symm
  rw [e] at a1
  unfold TIn tops
  rw [hb, hw, hq, hn]
  exact a1
/-- A cell of the tree's own, written. -/
theorem TIn.put (h : TIn w own L sh room s) (j : Nat) (u : Value) (s' : TS)
    (hb : tcell L sh room s' = (tcell L sh room s).setIfInBounds j u) (hr : ∀ k, ncell L sh s' k = ncell L sh s k) (hw : wheelC L.hb room s'.wn s'.c s'.H = wheelC L.hb room s.wn s.c s.H) (hq : qs L room s' = qs L room s) :
    ∃ own', TIn (w.setCell ⟨L.b, j, none⟩ u) own' L sh room s' ∧ Fol w own (w.setCell ⟨L.b, j, none⟩ u) own' := by
  obtain ⟨o, h1, h2, h3⟩ := Sep.foc (blkC L.b (tcell L sh room s) TT) (rowW TN 9 (.slice (some ⟨L.g, 0, none⟩) sh.n L.cap) sh.n ((List.range sh.n).flatMap (ncell L sh s)) :: wheelC L.hb room s.wn s.c s.H :: (List.range sh.n).map (qs L room s)) [] h
  obtain ⟨own', a1, a2⟩ := h3 (w.setCell ⟨L.b, j, none⟩ u) o (blkC L.b ((tcell L sh room s).setIfInBounds j u) TT) ⟨h1.1.set j u, h1.2⟩ ⟨fun k hk => .inl hk, Upd.setCell (S := o) (Upd.refl _ _) (fun _ => (h1.2 L.b).2 rfl) u⟩
  refine ⟨own', ?_, a2⟩
  unfold TIn tops
  have e : ncell L sh s' = ncell L sh s := funext hr
  rw [hb, hw, hq, e]
  exact a1
end
end Tree
end Go.Proofs.YtllfloapiliheaaDoor
namespace Go.Proofs.YtllfloapiliheaaDoor.Tree
open HeapE (El VE)
open WheelR (Ri)
open Cal (ins)
/-- a + b * c, capped. -/
def mad (a b c : Nat) : Nat := min (a + b * c) 18446744073709551615
theorem mad_le (a b c : Nat) : mad a b c ≤ 18446744073709551615 := Nat.min_le_right _ _
/-- An element: a child; a packet. -/
abbrev chi (i : Nat) : El := ((i : Nat), 0, 0, 0)
/-- A shape that may be. -/
structure Sh.Ok (sh : Sh) : Prop where
  pos : 1 ≤ sh.n
  le : sh.n ≤ 32
  par : ∀ i, i < sh.n → i ≠ 0 → sh.par i < i
  k1 : ∀ i, i < sh.n → 1 ≤ sh.kind i
  k3 : ∀ i, i < sh.n → sh.kind i ≤ 3
  wt : ∀ i, i < sh.n → sh.wt i ≤ 18446744073709551615
  gap : ∀ i, i < sh.n → sh.gap i ≤ 18446744073709551615
  leaf : ∀ i, i < sh.n → (sh.leaf i = true ↔ ∀ j, j < sh.n → j ≠ 0 → sh.par j ≠ i)
theorem Sh.Ok.inner {sh : Sh} (h : sh.Ok) {i : Nat} (hi : i < sh.n) (h0 : i ≠ 0) : sh.par i < sh.n ∧ sh.leaf (sh.par i) = false := by
  have h1 := h.par i hi h0
  refine ⟨by omega, ?_⟩
  cases e : sh.leaf (sh.par i) with
  | false => rfl
  | true => exact absurd rfl ((h.leaf _ (by omega)).1 e i hi h0)
/-- Numbers that fit. -/
structure TS.Fit (s : TS) : Prop where
  vi : ∀ i, s.vi i ≤ 18446744073709551615
  tg : ∀ i, s.tg i ≤ 18446744073709551615
  fr : ∀ i, s.fr i ≤ 18446744073709551615
/-- An element's rank in a node. -/
def rk (sh : Sh) (s : TS) (i : Nat) (e : El) : Nat :=
  if sh.kind i = 1 then 0 else if sh.kind i = 2 then (if sh.leaf i = true then e.2.2.2 else sh.wt e.1.toNat) else (if sh.leaf i = true then e.2.1 else max (s.vi i) (s.tg e.1.toNat))
/-- What asking for a rank leaves. -/
def tagged (sh : Sh) (s : TS) (i : Nat) (e : El) (by' : Nat) : TS :=
  if sh.kind i = 3 ∧ sh.leaf i = false then { s with tg := up s.tg e.1.toNat (mad (max (s.vi i) (s.tg e.1.toNat)) (sh.wt e.1.toNat) by') } else s
/-- An element comes into a node. -/
def entered (sh : Sh) (s : TS) (i : Nat) (e : El) (by' : Nat) : TS :=
  { tagged sh s i e by' with q := up s.q i (ins (rk sh s i e) e (s.q i)), c := s.c + 1 }
/-- A node is held. -/
def holds (sh : Sh) (s : TS) (at' i by' : Nat) : TS :=
  { s with fr := up s.fr i (mad (max at' (s.fr i)) (sh.gap i) by'), H := ins (max at' (s.fr i)) ((i, by') : Ri) s.H, c := s.c + 1 }
/-- An element comes into a node, and up from there. -/
def come (sh : Sh) : Nat → TS → Nat → Nat → El → Nat → TS
  | 0, s, _, _, _, _ => s
  | f + 1, s, at', i, e, by' =>
    if i = 0 then entered sh s i e by'
    else if sh.gap i = 0 then come sh f (entered sh s i e by') at' (sh.par i) (chi i) by'
    else holds sh (entered sh s i e by') at' i by'
/-- The first one held rises. -/
def rise1 (sh : Sh) (s : TS) : TS :=
  match s.H with
  | (t, v, by') :: r => if t ≤ s.now then come sh 32 { s with H := r, wn := t } t (sh.par v) (chi v) by' else s
  | [] => s
def rises (sh : Sh) : Nat → TS → TS
  | 0, s => s
  | k + 1, s => rises sh k (rise1 sh s)
/-- How often something may rise. -/
def meas (H : List (Nat × Ri)) : Nat := (H.map fun a => a.2.1 + 1).sum
/-- Time goes by. -/
def pass (sh : Sh) (s : TS) (now : Nat) : TS := rises sh (meas s.H) { s with now := max s.now now }
/-- Down to a leaf. -/
def down (sh : Sh) : Nat → TS → Nat → El × TS
  | 0, s, _ => ((0, 0, 0, 0), s)
  | f + 1, s, i =>
    match s.q i with
    | [] => ((0, 0, 0, 0), s)
    | (r, e) :: t =>
      if sh.leaf i = true then (e, { s with q := up s.q i t })
      else down sh f (if sh.kind i = 3 then { s with q := up s.q i t, vi := up s.vi i r } else { s with q := up s.q i t }) e.1.toNat
theorem tagged_q (sh : Sh) (s : TS) (i : Nat) (e : El) (b : Nat) : (tagged sh s i e b).q = s.q := by unfold tagged; split <;> rfl
theorem tagged_vi (sh : Sh) (s : TS) (i : Nat) (e : El) (b : Nat) : (tagged sh s i e b).vi = s.vi := by unfold tagged; split <;> rfl
theorem tagged_fr (sh : Sh) (s : TS) (i : Nat) (e : El) (b : Nat) : (tagged sh s i e b).fr = s.fr := by unfold tagged; split <;> rfl
theorem tagged_H (sh : Sh) (s : TS) (i : Nat) (e : El) (b : Nat) : (tagged sh s i e b).H = s.H := by unfold tagged; split <;> rfl
theorem tagged_c (sh : Sh) (s : TS) (i : Nat) (e : El) (b : Nat) : (tagged sh s i e b).c = s.c := by unfold tagged; split <;> rfl
theorem tagged_wn (sh : Sh) (s : TS) (i : Nat) (e : El) (b : Nat) : (tagged sh s i e b).wn = s.wn := by unfold tagged; split <;> rfl
theorem tagged_now (sh : Sh) (s : TS) (i : Nat) (e : El) (b : Nat) : (tagged sh s i e b).now = s.now := by unfold tagged; split <;> rfl
theorem tagged_m (sh : Sh) (s : TS) (i : Nat) (e : El) (b : Nat) : (tagged sh s i e b).m = s.m := by unfold tagged; split <;> rfl
theorem up_le {f : Nat → Nat} {B : Nat} (h : ∀ i, f i ≤ B) {x : Nat} (hx : x ≤ B) (i : Nat) : ∀ k, up f i x k ≤ B := fun k => by
  unfold up; split
  · exact hx
  · exact h k
theorem fit_tagged {sh : Sh} {s : TS} (h : s.Fit) (i : Nat) (e : El) (b : Nat) : (tagged sh s i e b).Fit := by
  unfold tagged
  split
  · exact ⟨h.vi, up_le h.tg (mad_le _ _ _) _, h.fr⟩
  · exact h
theorem fit_entered {sh : Sh} {s : TS} (h : s.Fit) (i : Nat) (e : El) (b : Nat) : (entered sh s i e b).Fit := by
  have h1 := fit_tagged (sh := sh) h i e b
  exact ⟨h1.vi, h1.tg, h1.fr⟩
theorem fit_holds {sh : Sh} {s : TS} (h : s.Fit) (at' i b : Nat) : (holds sh s at' i b).Fit := ⟨h.vi, h.tg, up_le h.fr (mad_le _ _ _) _⟩
theorem fit_come {sh : Sh} : ∀ (f : Nat) {s : TS}, s.Fit → ∀ (at' i : Nat) (e : El) (b : Nat), (come sh f s at' i e b).Fit
  | 0, _, h, _, _, _, _ => h
  | f + 1, s, h, at', i, e, b => by
    unfold come
    split
    · exact fit_entered h i e b
    · split
      · exact fit_come f (fit_entered h i e b) _ _ _ _
      · exact fit_holds (fit_entered h i e b) _ _ _
end Go.Proofs.YtllfloapiliheaaDoor.Tree
namespace Go.Proofs.YtllfloapiliheaaDoor.Tree
open HeapE (El VE)
open WheelR (Ri)
open Cal (ins Rises ins_mem ins_len ins_rises ins_behind)
theorem ins_perm {α : Type} (r : Nat) (x : α) (l : List (Nat × α)) : (ins r x l).Perm ((r, x) :: l) := by
  induction l with
  | nil => exact List.Perm.refl _
  | cons b t ih =>
    unfold ins
    split
    · exact List.Perm.refl _
    · exact (ih.cons b).trans (List.Perm.swap (r, x) b t)
/-- How often a child stands in a list. -/
def cntE (v : Nat) (l : List (Nat × El)) : Nat := l.countP (fun a => decide (a.2.1 = (v : Int)))
def cntH (v : Nat) (l : List (Nat × Ri)) : Nat := l.countP (fun a => decide (a.2.1 = v))
def cntL (v : Nat) (l : List (Nat × Ri)) : Nat := l.countP (fun a => decide (0 < a.2.1 ∧ a.2.1 ≤ v))
theorem cntE_cons (v : Nat) (a : Nat × El) (l : List (Nat × El)) : cntE v (a :: l) = cntE v l + if a.2.1 = (v : Int) then 1 else 0 := by
  unfold cntE; rw [List.countP_cons]; simp
theorem cntH_cons (v : Nat) (a : Nat × Ri) (l : List (Nat × Ri)) : cntH v (a :: l) = cntH v l + if a.2.1 = v then 1 else 0 := by
  unfold cntH; rw [List.countP_cons]; simp
theorem cntE_ins (v r : Nat) (e : El) (l : List (Nat × El)) : cntE v (ins r e l) = cntE v l + if e.1 = (v : Int) then 1 else 0 := by
  rw [← cntE_cons v (r, e) l]; exact (ins_perm r e l).countP_eq _
theorem cntH_ins (v r : Nat) (e : Ri) (l : List (Nat × Ri)) : cntH v (ins r e l) = cntH v l + if e.1 = v then 1 else 0 := by
  rw [← cntH_cons v (r, e) l]; exact (ins_perm r e l).countP_eq _
theorem cntE_le (v : Nat) (l : List (Nat × El)) : cntE v l ≤ l.length := List.countP_le_length
theorem cntL_le (v : Nat) (l : List (Nat × Ri)) : cntL v l ≤ l.length := List.countP_le_length
theorem cntL_add {p v : Nat} (hp : p < v) (l : List (Nat × Ri)) : cntL p l + cntH v l ≤ cntL v l := by
  induction l with
  | nil => exact Nat.le_refl _
  | cons a l ih =>
    unfold cntL cntH at ih ⊢
    rw [List.countP_cons, List.countP_cons, List.countP_cons]
    simp only [decide_eq_true_eq]
    have h1 : (if 0 < a.2.1 ∧ a.2.1 ≤ p then 1 else 0) + (if a.2.1 = v then 1 else 0) ≤ (if 0 < a.2.1 ∧ a.2.1 ≤ v then 1 else 0) := by
      split <;> split <;> split <;> omega
    omega
theorem meas_ins (r : Nat) (e : Ri) (l : List (Nat × Ri)) : meas (ins r e l) = meas l + (e.1 + 1) := by
  unfold meas
  rw [((ins_perm r e l).map _).sum_nat, List.map_cons, List.sum_cons]
  exact Nat.add_comm _ _
theorem meas_cons (a : Nat × Ri) (l : List (Nat × Ri)) : meas (a :: l) = a.2.1 + 1 + meas l := by
  unfold meas; rw [List.map_cons, List.sum_cons]
theorem meas_append (l l' : List (Nat × Ri)) : meas (l ++ l') = meas l + meas l' := by
  unfold meas; rw [List.map_append, List.sum_append]
/-- A packet that may be. -/
def PK (e : El) : Prop := e.1 = 0 ∧ e.2.1 < 4294967296 ∧ e.2.2.1 < 4294967296 ∧ e.2.2.2 ≤ 65535
/-- How often a node waits in its parent, or is held: as often as something waits in it; but one more waits in x. -/
structure Bal (sh : Sh) (s : TS) (x : Nat) : Prop where
  cnt : ∀ v, v < sh.n → v ≠ 0 → (s.q v).length = cntE v (s.q (sh.par v)) + cntH v s.H + if v = x then 1 else 0
  inn : ∀ i, i < sh.n → sh.leaf i = false → ∀ a ∈ s.q i, ∃ c, c < sh.n ∧ c ≠ 0 ∧ sh.par c = i ∧ a.2 = chi c
  lf : ∀ i, i < sh.n → sh.leaf i = true → ∀ a ∈ s.q i, PK a.2
  rnk : ∀ i, i < sh.n → ∀ a ∈ s.q i, a.1 ≤ 18446744073709551615
  hn : ∀ a ∈ s.H, a.2.1 < sh.n ∧ a.2.1 ≠ 0 ∧ a.2.2 ≤ 65535 ∧ s.wn ≤ a.1 ∧ a.1 ≤ 18446744073709551615
  hr : Rises s.H
  fit : s.Fit
  now : s.wn ≤ s.now ∧ s.now ≤ 18446744073709551615
/-- So many are in the tree. -/
def Tot (s : TS) (t : Nat) : Prop := s.m = (s.q 0).length + s.H.length + t
section
variable {sh : Sh} {s : TS} {x : Nat}
theorem Bal.le (h : Bal sh s x) (hs : sh.Ok) : ∀ v, v < sh.n → (s.q v).length ≤ (s.q 0).length + cntL v s.H + if x ≠ 0 ∧ x ≤ v then 1 else 0 := by
  intro v
  induction v using Nat.strongRecOn with
  | ind v ih =>
    intro hv
    by_cases h0 : v = 0
    · subst h0; omega
    · have h1 := h.cnt v hv h0
      have h2 := hs.par v hv h0
      have h3 := ih _ h2 (by omega)
      have h4 := cntE_le v (s.q (sh.par v))
      have h5 := cntL_add h2 s.H
      have h6 : (if v = x then 1 else 0) + (if x ≠ 0 ∧ x ≤ sh.par v then 1 else 0) ≤ (if x ≠ 0 ∧ x ≤ v then 1 else 0) := by
        split <;> split <;> split <;> omega
      omega
/-- There is room. -/
theorem Bal.room (h : Bal sh s x) (hs : sh.Ok) (ht : Tot s 1) {room i : Nat} (hm : s.m ≤ room) (hx : x = 0 ∨ i < x) : ∀ v, v ≤ i → v < sh.n → (s.q v).length < room := by
  intro v hv hn
  have h1 := h.le hs v hn
  have h2 := cntL_le v s.H
  unfold Tot at ht
  rw [if_neg (by omega)] at h1
  omega
theorem rk_le (h : Bal sh s x) (hs : sh.Ok) {i : Nat} {e : El} (he : (sh.leaf i = true ∧ PK e) ∨ (∃ c, c < sh.n ∧ e = chi c)) : rk sh s i e ≤ 18446744073709551615 := by
  have hv := h.fit.vi i
  have ht := h.fit.tg e.1.toNat
  unfold rk
  rcases he with ⟨hl, hp⟩ | ⟨c, hc, rfl⟩
  · have h1 := hp.2.1
    have h2 := hp.2.2.2
    rw [if_pos hl, if_pos hl]
    split
    · omega
    · split <;> omega
  · have hw := hs.wt c hc
    have ht : s.tg c ≤ 18446744073709551615 := h.fit.tg c
    show (if sh.kind i = 1 then 0 else if sh.kind i = 2 then (if sh.leaf i = true then 0 else sh.wt c) else (if sh.leaf i = true then 0 else max (s.vi i) (s.tg c))) ≤ _
    split
    · omega
    · split <;> split <;> omega
/-- What may come into a node. -/
def Comes (sh : Sh) (x i : Nat) (e : El) : Prop := (x = 0 ∧ sh.leaf i = true ∧ PK e) ∨ (x ≠ 0 ∧ x < sh.n ∧ sh.par x = i ∧ e = chi x)
theorem entered_H (i : Nat) (e : El) (b : Nat) : (entered sh s i e b).H = s.H := tagged_H sh s i e b
theorem entered_wn (i : Nat) (e : El) (b : Nat) : (entered sh s i e b).wn = s.wn := tagged_wn sh s i e b
theorem entered_now (i : Nat) (e : El) (b : Nat) : (entered sh s i e b).now = s.now := tagged_now sh s i e b
theorem entered_m (i : Nat) (e : El) (b : Nat) : (entered sh s i e b).m = s.m := tagged_m sh s i e b
theorem entered_q (i : Nat) (e : El) (b : Nat) : (entered sh s i e b).q = up s.q i (ins (rk sh s i e) e (s.q i)) := rfl
theorem entered_c (i : Nat) (e : El) (b : Nat) : (entered sh s i e b).c = s.c + 1 := rfl
theorem Comes.inner (hs : sh.Ok) {i : Nat} {e : El} (he : Comes sh x i e) (hx : x ≠ 0) : sh.leaf i = false := by
  rcases he with ⟨h, _⟩ | ⟨h1, h2, h3, _⟩
  · exact absurd h hx
  · exact h3 ▸ (hs.inner h2 h1).2
theorem Comes.lt (hs : sh.Ok) {i : Nat} {e : El} (he : Comes sh x i e) : x = 0 ∨ i < x := by
  rcases he with ⟨h, _⟩ | ⟨h1, h2, h3, _⟩
  · exact .inl h
  · exact .inr (h3 ▸ hs.par x h2 h1)
theorem entered_bal (hs : sh.Ok) (h : Bal sh s x) {i : Nat} (hi : i < sh.n) {e : El} (he : Comes sh x i e) (b : Nat) : Bal sh (entered sh s i e b) i := by
  have hrk := rk_le h hs (i := i) (e := e) (he.elim (fun h => .inl h.2) (fun h => .inr ⟨x, h.2.1, h.2.2.2⟩))
  refine ⟨fun v hv h0 => ?_, fun j hj hl a ha => ?_, fun j hj hl a ha => ?_, fun j hj a ha => ?_, ?_, ?_, fit_entered h.fit i e b, ?_⟩
  · rw [entered_q, entered_H]
    have h1 := h.cnt v hv h0
    have h2 := hs.par v hv h0
    by_cases e1 : v = i
    · subst e1
      rw [up_at, ins_len, up_off _ (by omega), if_pos rfl]
      rw [if_neg (by rcases he with ⟨h9, _⟩ | ⟨h9, h8, h7, _⟩ <;> first | omega | (have := hs.par x h8 h9; omega))] at h1
      omega
    · rw [up_off _ e1, if_neg e1]
      by_cases e2 : sh.par v = i
      · rw [e2, up_at, cntE_ins]
        rw [e2] at h1
        rcases he with ⟨_, h8, _⟩ | ⟨h9, h8, h7, rfl⟩
        · exact absurd e2 ((hs.leaf i hi).1 h8 v hv h0)
        · have e3 : ((chi x).1 = (v : Int)) ↔ v = x := ⟨fun h => by have : ((x : Nat) : Int) = v := h; omega, fun h => by subst h; rfl⟩
          simp only [e3]
          omega
      · rw [up_off _ e2]
        rw [if_neg (by rcases he with ⟨h9, _⟩ | ⟨_, _, h7, _⟩ <;> first | omega | (intro h9; subst h9; exact e2 h7))] at h1
        omega
  · rw [entered_q] at ha
    by_cases e1 : j = i
    · subst e1
      rw [up_at] at ha
      rcases ins_mem.1 ha with rfl | ha
      · rcases he with ⟨_, h8, _⟩ | ⟨h9, h8, h7, h6⟩
        · rw [hl] at h8; cases h8
        · exact ⟨x, h8, h9, h7, h6⟩
      · exact h.inn j hj hl a ha
    · rw [up_off _ e1] at ha
      exact h.inn j hj hl a ha
  · rw [entered_q] at ha
    by_cases e1 : j = i
    · subst e1
      rw [up_at] at ha
      rcases ins_mem.1 ha with rfl | ha
      · rcases he with ⟨_, _, h8⟩ | ⟨h9, h8, h7, h6⟩
        · exact h8
        · have := (hs.inner h8 h9).2; rw [h7, hl] at this; cases this
      · exact h.lf j hj hl a ha
    · rw [up_off _ e1] at ha
      exact h.lf j hj hl a ha
  · rw [entered_q] at ha
    by_cases e1 : j = i
    · subst e1
      rw [up_at] at ha
      rcases ins_mem.1 ha with rfl | ha
      · exact hrk
      · exact h.rnk j hj a ha
    · rw [up_off _ e1] at ha
      exact h.rnk j hj a ha
  · rw [entered_H, entered_wn]; exact h.hn
  · rw [entered_H]; exact h.hr
  · rw [entered_wn, entered_now]; exact h.now
theorem holds_bal (h : Bal sh s x) (hx : x ≠ 0) (hi : x < sh.n) {t b : Nat} (hb : b ≤ 65535) (h1 : s.wn ≤ t) (h2 : t ≤ 18446744073709551615) : Bal sh (holds sh s t x b) 0 := by
  have hf := h.fit.fr x
  refine ⟨fun v hv h0 => ?_, h.inn, h.lf, h.rnk, fun a ha => ?_, ins_rises h.hr, fit_holds h.fit _ _ _, h.now⟩
  · have h3 := h.cnt v hv h0
    show (s.q v).length = cntE v (s.q (sh.par v)) + cntH v (ins _ (x, b) s.H) + _
    rw [cntH_ins, if_neg h0]
    have e3 : ((x, b) : Ri).1 = v ↔ v = x := ⟨fun h => h.symm, fun h => h.symm⟩
    simp only [e3]
    omega
  · rcases ins_mem.1 ha with rfl | ha
    · exact ⟨hi, hx, hb, by show s.wn ≤ max t (s.fr x); omega, by show max t (s.fr x) ≤ _; omega⟩
    · exact h.hn a ha
/-- What coming leaves. -/
structure Came (s s' : TS) (i : Nat) : Prop where
  len : (s'.q 0).length + s'.H.length = (s.q 0).length + s.H.length + 1
  wn : s'.wn = s.wn
  now : s'.now = s.now
  m : s'.m = s.m
  c0 : s.c ≤ s'.c
  c1 : s'.c ≤ s.c + i + 2
  me : meas s'.H ≤ meas s.H + i + 1
theorem come_bal (hs : sh.Ok) : ∀ (f : Nat) {s : TS} {x i : Nat} {e : El} {t b : Nat}, i < f → Bal sh s x → i < sh.n → Comes sh x i e → s.wn ≤ t → t ≤ 18446744073709551615 → b ≤ 65535 → Bal sh (come sh f s t i e b) 0 ∧ Came s (come sh f s t i e b) i
  | 0, _, _, _, _, _, _, h, _, _, _, _, _, _ => absurd h (Nat.not_lt_zero _)
  | f + 1, s, x, i, e, t, b, hlt, h, hi, he, h1, h2, hb => by
    have h3 := entered_bal hs h hi he b
    unfold come
    by_cases h0 : i = 0
    · rw [if_pos h0]
      subst h0
      refine ⟨h3, ?_, entered_wn .., entered_now .., entered_m .., ?_, ?_, ?_⟩
      · rw [entered_q, entered_H, up_at, ins_len]; omega
      · rw [entered_c]; omega
      · rw [entered_c]; omega
      · rw [entered_H]; omega
    · rw [if_neg h0]
      have h4 := hs.par i hi h0
      by_cases hg : sh.gap i = 0
      · rw [if_pos hg]
        obtain ⟨h5, h6⟩ := come_bal hs f (s := entered sh s i e b) (x := i) (i := sh.par i) (e := chi i) (t := t) (b := b) (by omega) h3 (by omega) (.inr ⟨h0, hi, rfl, rfl⟩) (by rw [entered_wn]; exact h1) h2 hb
        refine ⟨h5, ?_, h6.wn.trans (entered_wn ..), h6.now.trans (entered_now ..), h6.m.trans (entered_m ..), ?_, ?_, ?_⟩
        · rw [h6.len, entered_q, entered_H, up_off _ (by omega)]
        · have := h6.c0; rw [entered_c] at this; omega
        · have := h6.c1; rw [entered_c] at this; omega
        · have := h6.me; rw [entered_H] at this; omega
      · rw [if_neg hg]
        refine ⟨holds_bal h3 h0 hi hb (by rw [entered_wn]; exact h1) h2, ?_, entered_wn .., entered_now .., entered_m .., ?_, ?_, ?_⟩
        · show ((entered sh s i e b).q 0).length + (ins _ _ (entered sh s i e b).H).length = _
          rw [ins_len, entered_q, entered_H, up_off _ (by omega)]; omega
        · show s.c ≤ s.c + 1 + 1; omega
        · show s.c + 1 + 1 ≤ _; omega
        · show meas (ins _ _ (entered sh s i e b).H) ≤ _
          rw [meas_ins, entered_H]
          show meas s.H + (i + 1) ≤ _
          omega
end
end Go.Proofs.YtllfloapiliheaaDoor.Tree
namespace Go.Proofs.YtllfloapiliheaaDoor.Tree
open HeapE (El VE)
open WheelR (Ri)
open Cal (ins Rises ins_mem ins_len ins_rises ins_behind)
section
variable {sh : Sh} {s : TS} {x : Nat}
/-- With more that is held ahead. -/
def ahead (D : List (Nat × Ri)) (s : TS) : TS := { s with H := D ++ s.H }
theorem rk_ahead (D : List (Nat × Ri)) (s : TS) (i : Nat) (e : El) : rk sh (ahead D s) i e = rk sh s i e := rfl
theorem entered_ahead (D : List (Nat × Ri)) (s : TS) (i : Nat) (e : El) (b : Nat) : entered sh (ahead D s) i e b = ahead D (entered sh s i e b) := by
  unfold entered tagged
  by_cases h : sh.kind i = 3 ∧ sh.leaf i = false
  · rw [if_pos h, if_pos h]; rfl
  · rw [if_neg h, if_neg h]; rfl
theorem come_ahead (D : List (Nat × Ri)) {t : Nat} (hD : ∀ a ∈ D, a.1 ≤ t) : ∀ (f : Nat) (s : TS) (i : Nat) (e : El) (b : Nat), come sh f (ahead D s) t i e b = ahead D (come sh f s t i e b)
  | 0, _, _, _, _ => rfl
  | f + 1, s, i, e, b => by
    unfold come
    by_cases h0 : i = 0
    · rw [if_pos h0, if_pos h0, entered_ahead]
    · rw [if_neg h0, if_neg h0]
      by_cases hg : sh.gap i = 0
      · rw [if_pos hg, if_pos hg, entered_ahead, come_ahead D hD f]
      · rw [if_neg hg, if_neg hg, entered_ahead]
        have h1 : ins (max t ((entered sh s i e b).fr i)) ((i, b) : Ri) (D ++ (entered sh s i e b).H) = D ++ ins (max t ((entered sh s i e b).fr i)) ((i, b) : Ri) (entered sh s i e b).H := ins_behind (fun a ha => by have := hD a ha; omega)
        unfold holds ahead
        simp only [h1]
/-- The one held first leaves. -/
theorem headless (h : Bal sh s 0) {t v b : Nat} {r : List (Nat × Ri)} (hH : s.H = (t, (v, b)) :: r) : Bal sh { s with H := r } v ∧ (∀ a ∈ r, t ≤ a.1) ∧ s.wn ≤ t ∧ t ≤ 18446744073709551615 ∧ v < sh.n ∧ v ≠ 0 ∧ b ≤ 65535 := by
  obtain ⟨h1, h2, h3, h4, h5⟩ := h.hn (t, (v, b)) (by rw [hH]; exact List.mem_cons_self ..)
  have hr := h.hr
  rw [hH] at hr
  have hr := List.pairwise_cons.1 hr
  refine ⟨⟨fun u hu h0 => ?_, h.inn, h.lf, h.rnk, fun a ha => h.hn a (by rw [hH]; exact List.mem_cons_of_mem _ ha), hr.2, ⟨h.fit.vi, h.fit.tg, h.fit.fr⟩, h.now⟩, fun a ha => hr.1 a ha, h4, h5, h1, h2, h3⟩
  have h6 := h.cnt u hu h0
  rw [hH, cntH_cons, if_neg h0] at h6
  show (s.q u).length = cntE u (s.q (sh.par u)) + cntH u r + _
  have e3 : ((t, ((v, b) : Ri)) : Nat × Ri).2.1 = u ↔ u = v := ⟨fun h => h.symm, fun h => h.symm⟩
  simp only [e3] at h6
  omega
theorem wn_bal (h : Bal sh s x) {t : Nat} (h1 : ∀ a ∈ s.H, t ≤ a.1) (h2 : t ≤ s.now) : Bal sh { s with wn := t } x :=
  ⟨h.cnt, h.inn, h.lf, h.rnk, fun a ha => ⟨(h.hn a ha).1, (h.hn a ha).2.1, (h.hn a ha).2.2.1, h1 a ha, (h.hn a ha).2.2.2.2⟩, h.hr, ⟨h.fit.vi, h.fit.tg, h.fit.fr⟩, ⟨h2, h.now.2⟩⟩
/-- What a rise leaves. -/
structure Rose (s s' : TS) : Prop where
  len : (s'.q 0).length + s'.H.length = (s.q 0).length + s.H.length
  now : s'.now = s.now
  m : s'.m = s.m
  c0 : s.c ≤ s'.c
  c1 : s'.c + 34 * meas s'.H ≤ s.c + 34 * meas s.H
  me : meas s'.H ≤ meas s.H
theorem Rose.refl (s : TS) : Rose s s := ⟨rfl, rfl, rfl, Nat.le_refl _, Nat.le_refl _, Nat.le_refl _⟩
theorem Rose.trans {a b c : TS} (h : Rose a b) (h' : Rose b c) : Rose a c := ⟨h'.len.trans h.len, h'.now.trans h.now, h'.m.trans h.m, Nat.le_trans h.c0 h'.c0, Nat.le_trans h'.c1 h.c1, Nat.le_trans h'.me h.me⟩
theorem rise1_some (hs : sh.Ok) (h : Bal sh s 0) {t v b : Nat} {r : List (Nat × Ri)} (hH : s.H = (t, (v, b)) :: r) (ht : t ≤ s.now) :
    rise1 sh s = come sh 32 { s with H := r, wn := t } t (sh.par v) (chi v) b ∧ Bal sh { s with H := r, wn := t } v ∧ Comes sh v (sh.par v) (chi v) ∧ sh.par v < v ∧ Bal sh (rise1 sh s) 0 ∧ Rose s (rise1 sh s) ∧ meas (rise1 sh s).H < meas s.H := by
  obtain ⟨h1, h2, h3, h4, h5, h6, h7⟩ := headless h hH
  have e1 : rise1 sh s = come sh 32 { s with H := r, wn := t } t (sh.par v) (chi v) b := by
    unfold rise1; rw [hH]; exact if_pos ht
  have h8 : Bal sh { s with H := r, wn := t } v := wn_bal (s := { s with H := r }) h1 h2 ht
  have h9 := hs.par v h5 h6
  have hc : Comes sh v (sh.par v) (chi v) := .inr ⟨h6, h5, rfl, rfl⟩
  have hle := hs.le
  obtain ⟨g1, g2⟩ := come_bal hs 32 (s := { s with H := r, wn := t }) (t := t) (b := b) (by omega) h8 (by omega) hc (Nat.le_refl _) h4 h7
  rw [e1]
  have g3 := g2.len
  have g4 := g2.c1
  have g5 := g2.me
  have e2 : s.H.length = r.length + 1 := by rw [hH]; rfl
  have e3 : meas s.H = v + 1 + meas r := by rw [hH]; exact meas_cons _ _
  refine ⟨rfl, h8, hc, h9, g1, ⟨?_, g2.now, g2.m, g2.c0, ?_, ?_⟩, ?_⟩
  · rw [g3, e2]; show (s.q 0).length + r.length + 1 = _; omega
  · have g6 : (come sh 32 { s with H := r, wn := t } t (sh.par v) (chi v) b).c ≤ s.c + sh.par v + 2 := g4
    have g7 : meas (come sh 32 { s with H := r, wn := t } t (sh.par v) (chi v) b).H ≤ meas r + sh.par v + 1 := g5
    omega
  · have g7 : meas (come sh 32 { s with H := r, wn := t } t (sh.par v) (chi v) b).H ≤ meas r + sh.par v + 1 := g5
    omega
  · have g7 : meas (come sh 32 { s with H := r, wn := t } t (sh.par v) (chi v) b).H ≤ meas r + sh.par v + 1 := g5
    omega
/-- Nothing is due. -/
def Still (s : TS) : Prop := ∀ a ∈ s.H, s.now < a.1
theorem rise1_still (h : Still s) : rise1 sh s = s := by
  unfold rise1
  split
  · rename_i t v b r hH
    have := h (t, (v, b)) (by rw [hH]; exact List.mem_cons_self ..)
    exact if_neg (by omega)
  · rfl
theorem rises_still : ∀ (k : Nat) {s : TS}, Still s → rises sh k s = s
  | 0, _, _ => rfl
  | k + 1, s, h => by unfold rises; rw [rise1_still h]; exact rises_still k h
theorem due_or (h : Bal sh s x) : Still s ∨ ∃ t v b r, s.H = (t, (v, b)) :: r ∧ t ≤ s.now := by
  cases hH : s.H with
  | nil => exact .inl (fun a ha => by rw [hH] at ha; cases ha)
  | cons a r =>
    obtain ⟨t, v, b⟩ := a
    by_cases ht : t ≤ s.now
    · exact .inr ⟨t, v, b, r, rfl, ht⟩
    · refine .inl (fun a ha => ?_)
      have hr := h.hr
      rw [hH] at hr ha
      rcases List.mem_cons.1 ha with rfl | ha
      · show s.now < t; omega
      · have := (List.pairwise_cons.1 hr).1 a ha; show s.now < a.1; have : t ≤ a.1 := this; omega
theorem rises_bal (hs : sh.Ok) : ∀ (k : Nat) {s : TS}, Bal sh s 0 → meas s.H ≤ k → Bal sh (rises sh k s) 0 ∧ Rose s (rises sh k s) ∧ Still (rises sh k s) ∧ ∀ k', meas s.H ≤ k' → rises sh k' s = rises sh k s
  | 0, s, h, hk => by
    have : s.H = [] := by
      cases hH : s.H with
      | nil => rfl
      | cons a r => rw [hH, meas_cons] at hk; omega
    have hst : Still s := fun a ha => by rw [this] at ha; cases ha
    exact ⟨h, Rose.refl s, hst, fun k' _ => rises_still k' hst⟩
  | k + 1, s, h, hk => by
    rcases due_or h with hst | ⟨t, v, b, r, hH, ht⟩
    · rw [rises_still (k + 1) hst]
      exact ⟨h, Rose.refl s, hst, fun k' _ => rises_still k' hst⟩
    · obtain ⟨_, _, _, _, h1, h2, h3⟩ := rise1_some hs h hH ht
      obtain ⟨g1, g2, g3, g4⟩ := rises_bal hs k (s := rise1 sh s) h1 (by omega)
      unfold rises
      refine ⟨g1, h2.trans g2, g3, fun k' hk' => ?_⟩
      cases k' with
      | zero => omega
      | succ k' => exact g4 k' (by omega)
theorem rises_step (hs : sh.Ok) (h : Bal sh s 0) {t v b : Nat} {r : List (Nat × Ri)} (hH : s.H = (t, (v, b)) :: r) (ht : t ≤ s.now) : rises sh (meas s.H) s = rises sh (meas (rise1 sh s).H) (rise1 sh s) := by
  obtain ⟨_, _, _, _, h1, h2, h3⟩ := rise1_some hs h hH ht
  obtain ⟨k, hk⟩ : ∃ k, meas s.H = k + 1 := ⟨meas s.H - 1, by omega⟩
  rw [hk]
  show rises sh k (rise1 sh s) = _
  exact (rises_bal hs (meas (rise1 sh s).H) h1 (Nat.le_refl _)).2.2.2 k (by omega)
theorem later_bal (h : Bal sh s x) {t : Nat} (ht : t ≤ 18446744073709551615) : Bal sh { s with now := max s.now t } x :=
  ⟨h.cnt, h.inn, h.lf, h.rnk, h.hn, h.hr, ⟨h.fit.vi, h.fit.tg, h.fit.fr⟩, ⟨by have := h.now; show s.wn ≤ max s.now t; omega, by have := h.now; show max s.now t ≤ _; omega⟩⟩
/-- What time's going by leaves. -/
theorem pass_bal (hs : sh.Ok) (h : Bal sh s 0) {t : Nat} (ht : t ≤ 18446744073709551615) : Bal sh (pass sh s t) 0 ∧ Still (pass sh s t) ∧ (pass sh s t).now = max s.now t ∧ (pass sh s t).m = s.m ∧ ((pass sh s t).q 0).length + (pass sh s t).H.length = (s.q 0).length + s.H.length ∧ s.c ≤ (pass sh s t).c ∧ (pass sh s t).c + 34 * meas (pass sh s t).H ≤ s.c + 34 * meas s.H := by
  obtain ⟨g1, g2, g3, g4⟩ := rises_bal hs (meas s.H) (s := { s with now := max s.now t }) (later_bal h ht) (Nat.le_refl _)
  exact ⟨g1, g3, g2.now, g2.m, g2.len, g2.c0, g2.c1⟩
theorem meas_le (h : Bal sh s x) (hs : sh.Ok) : meas s.H ≤ 32 * s.H.length := by
  have h1 := h.hn
  have h2 := hs.le
  generalize s.H = l at h1
  induction l with
  | nil => exact Nat.le_refl _
  | cons a l ih =>
    have h3 := (h1 a (List.mem_cons_self ..)).1
    have h4 := ih (fun b hb => h1 b (List.mem_cons_of_mem _ hb))
    rw [meas_cons, List.length_cons]; omega
end
/-- A packet comes. -/
def push (sh : Sh) (room : Nat) (s : TS) (now : Nat) (leaf : Int) (p : Nat × Nat × Nat) : Nat × TS :=
  let s1 := pass sh s now
  if leaf < 0 ∨ (sh.n : Int) ≤ leaf then (7, s1) else if sh.leaf leaf.toNat = false then (6, s1) else if p.2.2 = 0 ∨ 65535 < p.2.2 then (12, s1) else if room ≤ s1.m then (20, s1)
  else (0, pass sh (come sh 32 { s1 with m := s1.m + 1 } s1.now leaf.toNat ((0 : Int), p) p.2.2) s1.now)
/-- A packet leaves. -/
def pop (sh : Sh) (s : TS) (now : Nat) : (Nat × Nat × Nat) × Nat × TS :=
  let s1 := pass sh s now
  if s1.m = 0 then ((0, 0, 0), 18, s1) else if s1.q 0 = [] then ((0, 0, 0), 19, s1) else ((down sh 32 { s1 with m := s1.m - 1 } 0).1.2, 0, (down sh 32 { s1 with m := s1.m - 1 } 0).2)
section
variable {sh : Sh} {s : TS} {x : Nat}
theorem m_bal (h : Bal sh s x) (m : Nat) : Bal sh { s with m := m } x := ⟨h.cnt, h.inn, h.lf, h.rnk, h.hn, h.hr, ⟨h.fit.vi, h.fit.tg, h.fit.fr⟩, h.now⟩
theorem fit_up {f : Nat → Nat} (h : ∀ i, f i ≤ 18446744073709551615) (i : Nat) {r : Nat} (hr : r ≤ 18446744073709551615) : ∀ k, up f i r k ≤ 18446744073709551615 := up_le h hr i
/-- One that leaves a node. -/
theorem taken (hs : sh.Ok) (h : Bal sh s x) (hx : x < sh.n) {r : Nat} {e : El} {t : List (Nat × El)} (hq : s.q x = (r, e) :: t) :
    (sh.leaf x = true → Bal sh { s with q := up s.q x t } 0 ∧ PK e) ∧
    (sh.leaf x = false → ∃ c, c < sh.n ∧ x < c ∧ sh.par c = x ∧ e = chi c ∧ s.q c ≠ [] ∧ Bal sh { s with q := up s.q x t } c ∧ r ≤ 18446744073709551615) := by
  have hmem : (r, e) ∈ s.q x := by rw [hq]; exact List.mem_cons_self ..
  have hsub : ∀ j a, a ∈ up s.q x t j → a ∈ s.q j := fun j a ha => by
    by_cases e1 : j = x
    · subst e1; rw [up_at] at ha; rw [hq]; exact List.mem_cons_of_mem _ ha
    · rw [up_off _ e1] at ha; exact ha
  have hb : ∀ y, (∀ v, v < sh.n → v ≠ 0 → (up s.q x t v).length = cntE v (up s.q x t (sh.par v)) + cntH v s.H + if v = y then 1 else 0) → Bal sh { s with q := up s.q x t } y := fun y hy =>
    ⟨hy, fun i hi hl a ha => h.inn i hi hl a (hsub i a ha), fun i hi hl a ha => h.lf i hi hl a (hsub i a ha), fun i hi a ha => h.rnk i hi a (hsub i a ha), h.hn, h.hr, ⟨h.fit.vi, h.fit.tg, h.fit.fr⟩, h.now⟩
  refine ⟨fun hl => ⟨hb 0 (fun v hv h0 => ?_), h.lf x hx hl _ hmem⟩, fun hl => ?_⟩
  · have h1 := h.cnt v hv h0
    have h2 : sh.par v ≠ x := (hs.leaf x hx).1 hl v hv h0
    rw [up_off _ h2, if_neg h0]
    by_cases e1 : v = x
    · subst e1
      rw [up_at]
      rw [hq, if_pos rfl, List.length_cons] at h1
      omega
    · rw [up_off _ e1]
      rw [if_neg e1] at h1
      exact h1
  · obtain ⟨c, hc, hc0, hcp, he⟩ := h.inn x hx hl _ hmem
    have he : e = chi c := he
    subst he
    have hlt : x < c := hcp ▸ hs.par c hc hc0
    have h3 := h.cnt c hc hc0
    rw [hcp, hq, cntE_cons, if_pos (show ((r, chi c) : Nat × El).2.1 = (c : Int) from rfl)] at h3
    refine ⟨c, hc, hlt, hcp, rfl, fun e1 => by rw [e1] at h3; simp at h3; omega, hb c (fun v hv h0 => ?_), h.rnk x hx _ hmem⟩
    have h1 := h.cnt v hv h0
    have h2 := hs.par v hv h0
    by_cases e1 : v = x
    · subst e1
      rw [up_at, up_off _ (by omega), if_neg (by omega)]
      rw [hq, if_pos rfl, List.length_cons] at h1
      omega
    · rw [up_off _ e1]
      rw [if_neg e1] at h1
      by_cases e2 : sh.par v = x
      · rw [e2, up_at]
        rw [e2, hq, cntE_cons] at h1
        have e3 : ((r, chi c) : Nat × El).2.1 = (v : Int) ↔ v = c := ⟨fun h => by have : ((c : Nat) : Int) = v := h; omega, fun h => by subst h; rfl⟩
        simp only [e3] at h1
        omega
      · rw [up_off _ e2, if_neg (fun h9 => e2 (by rw [h9]; exact hcp))]
        exact h1
theorem vi_bal (h : Bal sh s x) (i : Nat) {r : Nat} (hr : r ≤ 18446744073709551615) : Bal sh { s with vi := up s.vi i r } x := ⟨h.cnt, h.inn, h.lf, h.rnk, h.hn, h.hr, ⟨fit_up h.fit.vi i hr, h.fit.tg, h.fit.fr⟩, h.now⟩
/-- What going down leaves. -/
structure Gone (s s' : TS) : Prop where
  H : s'.H = s.H
  now : s'.now = s.now
  wn : s'.wn = s.wn
  m : s'.m = s.m
  c : s'.c = s.c
  fr : s'.fr = s.fr
  tg : s'.tg = s.tg
/-- A node after one left it that is no leaf. -/
def stepped (sh : Sh) (s : TS) (i r : Nat) (t : List (Nat × El)) : TS := if sh.kind i = 3 then { s with q := up s.q i t, vi := up s.vi i r } else { s with q := up s.q i t }
theorem stepped_gone (i r : Nat) (t : List (Nat × El)) : Gone s (stepped sh s i r t) ∧ (stepped sh s i r t).q = up s.q i t := by
  unfold stepped; split <;> exact ⟨⟨rfl, rfl, rfl, rfl, rfl, rfl, rfl⟩, rfl⟩
theorem Gone.trans {a b c : TS} (h : Gone a b) (h' : Gone b c) : Gone a c := ⟨h'.H.trans h.H, h'.now.trans h.now, h'.wn.trans h.wn, h'.m.trans h.m, h'.c.trans h.c, h'.fr.trans h.fr, h'.tg.trans h.tg⟩
theorem down_bal (hs : sh.Ok) : ∀ (f : Nat) {s : TS} {x : Nat}, sh.n ≤ f + x → Bal sh s x → x < sh.n → s.q x ≠ [] → Bal sh (down sh f s x).2 0 ∧ PK (down sh f s x).1 ∧ Gone s (down sh f s x).2 ∧ (∀ i, i < x → (down sh f s x).2.q i = s.q i) ∧ ((down sh f s x).2.q x).length + 1 = (s.q x).length
  | 0, _, _, h0, _, hx, _ => absurd hx (by omega)
  | f + 1, s, x, hf, h, hx, hq => by
    cases he : s.q x with
    | nil => exact absurd he hq
    | cons a t =>
      obtain ⟨r, e⟩ := a
      obtain ⟨h1, h2⟩ := taken hs h hx he
      cases hl : sh.leaf x with
      | true =>
        have e1 : down sh (f + 1) s x = (e, { s with q := up s.q x t }) := by
          simp only [down, he]; rw [if_pos hl]
        rw [e1]
        refine ⟨(h1 hl).1, (h1 hl).2, ⟨rfl, rfl, rfl, rfl, rfl, rfl, rfl⟩, fun i hi => up_off _ (by omega) _, ?_⟩
        show (up s.q x t x).length + 1 = _
        rw [up_at]; rfl
      | false =>
        obtain ⟨c, hc, hlt, hcp, rfl, hne, hb, hr⟩ := h2 hl
        have e1 : down sh (f + 1) s x = down sh f (stepped sh s x r t) c := by
          simp only [down, he]; rw [if_neg (by rw [hl]; exact Bool.false_ne_true)]
          unfold stepped
          have e2 : (chi c).1.toNat = c := Int.toNat_natCast c
          rw [e2]
        obtain ⟨g1, g2⟩ := stepped_gone (sh := sh) (s := s) x r t
        have hb2 : Bal sh (stepped sh s x r t) c := by
          unfold stepped
          split
          · exact vi_bal hb x hr
          · exact hb
        obtain ⟨a1, a2, a3, a4, a5⟩ := down_bal hs f (s := stepped sh s x r t) (x := c) (by omega) hb2 hc (by rw [g2, up_off _ (by omega)]; exact hne)
        rw [e1]
        refine ⟨a1, a2, g1.trans a3, fun i hi => ?_, ?_⟩
        · rw [a4 i (by omega), g2, up_off _ (by omega)]
        · rw [a4 x hlt, g2, up_at]; rfl
/-- A tree that may be. -/
structure Good (sh : Sh) (room : Nat) (s : TS) : Prop where
  bal : Bal sh s 0
  tot : Tot s 0
  le : s.m ≤ room
theorem Good.meas {room : Nat} (h : Good sh room s) (hs : sh.Ok) (hr : room ≤ 4096) : Tree.meas s.H ≤ 131072 := by
  have h1 := meas_le h.bal hs
  have h2 := h.tot
  have h3 := h.le
  unfold Tot at h2
  omega
theorem pass_good {room : Nat} (hs : sh.Ok) (h : Good sh room s) {t : Nat} (ht : t ≤ 18446744073709551615) : Good sh room (pass sh s t) := by
  obtain ⟨g1, g2, g3, g4, g5, g6, g7⟩ := pass_bal hs h.bal ht
  refine ⟨g1, ?_, by rw [g4]; exact h.le⟩
  have := h.tot
  unfold Tot at this ⊢
  omega
theorem came_good {room : Nat} (hs : sh.Ok) (h : Good sh room s) {i : Nat} (hi : i < sh.n) (hl : sh.leaf i = true) {e : El} (hp : PK e) (hm : s.m < room) :
    Bal sh { s with m := s.m + 1 } 0 ∧ Comes sh 0 i e ∧ Good sh room (come sh 32 { s with m := s.m + 1 } s.now i e e.2.2.2) ∧ Came { s with m := s.m + 1 } (come sh 32 { s with m := s.m + 1 } s.now i e e.2.2.2) i := by
  have h1 := m_bal h.bal (s.m + 1)
  have hc : Comes sh 0 i e := .inl ⟨rfl, hl, hp⟩
  have hle := hs.le
  obtain ⟨g1, g2⟩ := come_bal hs 32 (s := { s with m := s.m + 1 }) (t := s.now) (b := e.2.2.2) (by omega) h1 hi hc h.bal.now.1 h.bal.now.2 hp.2.2.2
  refine ⟨h1, hc, ⟨g1, ?_, by rw [g2.m]; exact hm⟩, g2⟩
  have h2 := h.tot
  have h3 := g2.len
  have h4 := g2.m
  unfold Tot at h2 ⊢
  rw [h4]
  show s.m + 1 = _
  have h5 : (come sh 32 { s with m := s.m + 1 } s.now i e e.2.2.2).q 0 = (come sh 32 { s with m := s.m + 1 } s.now i e e.2.2.2).q 0 := rfl
  change _ = (s.q 0).length + s.H.length + 1 at h3
  omega
theorem push_good {room : Nat} (hs : sh.Ok) (h : Good sh room s) (hr : room ≤ 4096) {t : Nat} (ht : t ≤ 18446744073709551615) (leaf : Int) (p : Nat × Nat × Nat) (hp1 : p.1 < 4294967296) (hp2 : p.2.1 < 4294967296) :
    Good sh room (push sh room s t leaf p).2 ∧ s.c ≤ (push sh room s t leaf p).2.c ∧ (push sh room s t leaf p).2.c ≤ s.c + 10000000 := by
  have h1 := pass_good hs h ht
  obtain ⟨_, _, _, _, _, g6, g7⟩ := pass_bal hs h.bal ht
  have hm := h.meas hs hr
  unfold push
  simp only
  split
  · exact ⟨h1, g6, by show (pass sh s t).c ≤ _; omega⟩
  · rename_i ha
    have hi : leaf.toNat < sh.n := by omega
    split
    · exact ⟨h1, g6, by show (pass sh s t).c ≤ _; omega⟩
    · rename_i hb
      have hl : sh.leaf leaf.toNat = true := by revert hb; cases sh.leaf leaf.toNat <;> simp
      split
      · exact ⟨h1, g6, by show (pass sh s t).c ≤ _; omega⟩
      · rename_i hc
        split
        · exact ⟨h1, g6, by show (pass sh s t).c ≤ _; omega⟩
        · rename_i hd
          obtain ⟨_, _, b1, b2⟩ := came_good hs h1 hi hl (e := ((0 : Int), p)) ⟨rfl, hp1, hp2, by show p.2.2 ≤ 65535; omega⟩ (by omega)
          have hnow := h1.bal.now.2
          have b3 := pass_good hs b1 hnow
          obtain ⟨_, _, _, _, _, d6, d7⟩ := pass_bal hs b1.bal hnow
          have hm2 := b1.meas hs hr
          have b4 := b2.c0
          have b5 := b2.c1
          have hle := hs.le
          change (pass sh s t).c ≤ _ at b4
          change _ ≤ (pass sh s t).c + _ + 2 at b5
          simp only at b3 d6 d7 hm2 b4 b5
          exact ⟨b3, by show s.c ≤ (pass sh _ _).c; omega, by show (pass sh _ _).c ≤ _; omega⟩
theorem pop_good {room : Nat} (hs : sh.Ok) (h : Good sh room s) (hr : room ≤ 4096) {t : Nat} (ht : t ≤ 18446744073709551615) :
    Good sh room (pop sh s t).2.2 ∧ s.c ≤ (pop sh s t).2.2.c ∧ (pop sh s t).2.2.c ≤ s.c + 10000000 := by
  have h1 := pass_good hs h ht
  obtain ⟨_, _, _, _, _, g6, g7⟩ := pass_bal hs h.bal ht
  have hm := h.meas hs hr
  unfold pop
  simp only
  split
  · exact ⟨h1, g6, by show (pass sh s t).c ≤ _; omega⟩
  · rename_i ha
    split
    · exact ⟨h1, g6, by show (pass sh s t).c ≤ _; omega⟩
    · rename_i hb
      have hle := hs.le
      obtain ⟨a1, a2, a3, a4, a5⟩ := down_bal hs 32 (s := { pass sh s t with m := (pass sh s t).m - 1 }) (x := 0) (by omega) (m_bal h1.bal _) hs.pos hb
      have e1 : (down sh 32 { pass sh s t with m := (pass sh s t).m - 1 } 0).2.H = (pass sh s t).H := a3.H
      have e2 : (down sh 32 { pass sh s t with m := (pass sh s t).m - 1 } 0).2.m = (pass sh s t).m - 1 := a3.m
      have e3 : (down sh 32 { pass sh s t with m := (pass sh s t).m - 1 } 0).2.c = (pass sh s t).c := a3.c
      have e4 : ((down sh 32 { pass sh s t with m := (pass sh s t).m - 1 } 0).2.q 0).length + 1 = ((pass sh s t).q 0).length := a5
      have h2 := h1.tot
      have h3 := h1.le
      refine ⟨⟨a1, ?_, by rw [e2]; omega⟩, by rw [e3]; exact g6, by rw [e3]; omega⟩
      unfold Tot at h2 ⊢
      rw [e1, e2]
      clear a5
      show (pass sh s t).m - 1 = ((down sh 32 { pass sh s t with m := (pass sh s t).m - 1 } 0).2.q 0).length + (pass sh s t).H.length + 0
      omega
end
end Go.Proofs.YtllfloapiliheaaDoor.Tree
namespace Go.Proofs.YtllfloapiliheaaDoor.Tree
open Go.RowKit Go.Proofs BigFrame
open HeapE (El VE)
set_option maxHeartbeats 4000000
set_option maxRecDepth 1000000
section
variable {w : World} {own : Nat → Prop} {L : Lay} {sh : Sh} {room : Nat} {s : TS}
theorem TIn.fields (h : TIn w own L sh room s) : w.cell? ⟨L.b, 0, none⟩ = some (.slice (some ⟨L.g, 0, none⟩) sh.n L.cap) ∧ w.cell? ⟨L.b, 1, none⟩ = some (.pointer (some ⟨L.hb, 0, none⟩)) ∧ w.cell? ⟨L.b, 2, none⟩ = some (.int .u64 (s.now : Nat)) ∧ w.cell? ⟨L.b, 3, none⟩ = some (.int .i64 (s.m : Nat)) ∧ w.cell? ⟨L.b, 4, none⟩ = some (.int .i64 (room : Nat)) ∧ (∀ j, w.frozen? ⟨L.b, j, none⟩ = false) := by
  have hb := h.blk
  exact ⟨hb.cellAt rfl, hb.cellAt rfl, hb.cellAt rfl, hb.cellAt rfl, hb.cellAt rfl, fun j => hb.free j⟩
theorem TIn.node (h : TIn w own L sh room s) {i : Nat} (hi : i < sh.n) : w.cell? ⟨L.g, i * 9, none⟩ = some (.int .i64 (sh.par i : Nat)) ∧ w.cell? ⟨L.g, i * 9 + 1, none⟩ = some (.int .i64 (sh.kind i : Nat)) ∧ w.cell? ⟨L.g, i * 9 + 2, none⟩ = some (.int .u64 (sh.wt i : Nat)) ∧ w.cell? ⟨L.g, i * 9 + 3, none⟩ = some (.int .u64 (sh.gap i : Nat)) ∧ w.cell? ⟨L.g, i * 9 + 4, none⟩ = some (.bool (sh.leaf i)) ∧ w.cell? ⟨L.g, i * 9 + 5, none⟩ = some (.pointer (some ⟨L.bs i, 0, none⟩)) ∧ w.cell? ⟨L.g, i * 9 + 6, none⟩ = some (.int .u64 (s.vi i : Nat)) ∧ w.cell? ⟨L.g, i * 9 + 7, none⟩ = some (.int .u64 (s.tg i : Nat)) ∧ w.cell? ⟨L.g, i * 9 + 8, none⟩ = some (.int .u64 (s.fr i : Nat)) :=
  ⟨(h.cell (j := 0) hi rfl).1, (h.cell (j := 1) hi rfl).1, (h.cell (j := 2) hi rfl).1, (h.cell (j := 3) hi rfl).1, (h.cell (j := 4) hi rfl).1, (h.cell (j := 5) hi rfl).1, (h.cell (j := 6) hi rfl).1, (h.cell (j := 7) hi rfl).1, (h.cell (j := 8) hi rfl).1⟩
theorem TIn.frozen (h : TIn w own L sh room s) {i j : Nat} (hi : i < sh.n) (hj : j < 9) : w.frozen? ⟨L.g, i * 9 + j, none⟩ = false := by
  obtain ⟨v, hv⟩ : ∃ v, (ncell L sh s i)[j]? = some v := ⟨(ncell L sh s i)[j]'(by rw [ncell_len]; exact hj), List.getElem?_eq_getElem _⟩
  exact (h.cell hi hv).2
end
/-- What rank starts with: the element in a block of its own. -/
theorem TIn.box {w : World} {own : Nat → Prop} {L : Lay} {sh : Sh} {room : Nat} {s : TS} (h : TIn w own L sh room s) (v : Array Value) (t : TypeId) : TIn (w.alloc (.cells v t)) own L sh room s ∧ Blk (w.alloc (.cells v t)) w.heap.size v t := ⟨h.old ((Upd.refl _ _).alloc _), Blk.new _ _ _⟩
abbrev ecell (x : Int) (a b c : Nat) : Array Value := #[.int .i64 x, .int .u32 a, .int .u32 b, .int .u64 c]
theorem rank_ok {w : World} {own : Nat → Prop} {L : Lay} {sh : Sh} {room : Nat} {s : TS} (h : TIn w own L sh room s) (hs : sh.Ok) (hf : s.Fit) {i : Nat} (hi : i < sh.n) (x : Nat) (hx : sh.leaf i = true ∨ x < sh.n) (a b c : Nat) (ha : a < 4294967296) (by' : Nat) (hb : by' ≤ 18446744073709551615) :
    Calls Tryd.prog 48 #[.pointer (some ⟨L.b, 0, none⟩), .pointer (some ⟨L.g, i * 9, none⟩), VE ((x : Nat), a, b, c), .int .u64 by'] w fun e w' => e = .returned (.int .u64 (rk sh s i ((x : Nat), a, b, c) : Nat)) ∧
      ∃ own', TIn w' own' L sh room (tagged sh s i ((x : Nat), a, b, c) by') ∧ Fol w own w' own' := by
  obtain ⟨kd, hkd⟩ : ∃ kd, sh.kind i = kd := ⟨_, rfl⟩
  obtain ⟨lf, hlf⟩ : ∃ lf, sh.leaf i = lf := ⟨_, rfl⟩
  have k1 := hs.k1 i hi
  have k3 := hs.k3 i hi
  have H := Lib.hid h
  obtain ⟨w0, hw0⟩ : ∃ w0, w0 = w.alloc (.cells (ecell x a b c) TE) := ⟨_, rfl⟩
  obtain ⟨h1, hB⟩ := h.box (ecell x a b c) TE
  rw [← hw0] at h1 hB
  have hU : Fol w own w0 own := (Fol.refl _ _).old (by rw [hw0]; exact (Upd.refl _ _).alloc _)
  obtain ⟨t0, -⟩ := h1.fields
  obtain ⟨c0, c1, c2, c3, c4, c5, c6, c7, c8⟩ := h1.node hi
  obtain ⟨b0, b1, b2, b3, z0, z1, z2, z3⟩ := cells4 hB
  rw [hkd] at c1 k1 k3
  rw [hlf] at c4
  have H1 := Lib.hid h1
  have HU := Lib.hid hU
  have HKD := Lib.hid hkd
  have HLF := Lib.hid hlf
  clear h h1 hB hU hkd hlf
  go_enter Tryd.func48, Tryd.ntmps48
  go_upto_region 1 with fail
  generalize w.alloc (.cells (ecell x a b c) TE) = w1 at hw0 ⊢
  subst hw0
  rcases (show kd = 1 ∨ kd = 2 ∨ kd = 3 by omega) with rfl | rfl | rfl
  · go_wp2_with fail
    go_ret
    refine ⟨?_, _, ?_, HU.out⟩
    · simp [rk, HKD.out]
    · simpa [tagged, HKD.out] using H1.out
  · cases lf with
    | true =>
      go_wp2_with fail
      go_ret
      refine ⟨?_, _, ?_, HU.out⟩
      · simp [rk, HKD.out, HLF.out]
      · simpa [tagged, HKD.out] using H1.out
    | false =>
      have hx2 : x < sh.n := hx.resolve_left (by rw [HLF.out]; exact Bool.false_ne_true)
      obtain ⟨d0, d1, d2, d3, d4, d5, d6, d7, d8⟩ := H1.out.node hx2
      go_wp2_with fail
      go_region
      all_goals
        go_wp2_with fail
        go_ret
        refine ⟨?_, _, ?_, (HU.out.old ((Upd.refl _ _).drew))⟩
        · simp [rk, HKD.out, HLF.out]
        · simpa [tagged, HKD.out] using H1.out.old ((Upd.refl _ _).drew)
  · cases lf with
    | true =>
      go_wp2_with fail
      go_ret
      refine ⟨?_, _, ?_, HU.out⟩
      · simp [rk, HKD.out, HLF.out]
      · simpa [tagged, HKD.out, HLF.out] using H1.out
    | false =>
      have hx2 : x < sh.n := hx.resolve_left (by rw [HLF.out]; exact Bool.false_ne_true)
      obtain ⟨d0, d1, d2, d3, d4, d5, d6, d7, d8⟩ := H1.out.node hx2
      have hv := hf.vi i
      have ht := hf.tg x
      have hwt := hs.wt x hx2
      obtain ⟨V, hV⟩ : ∃ V, s.vi i = V := ⟨_, rfl⟩
      obtain ⟨T, hT⟩ : ∃ T, s.tg x = T := ⟨_, rfl⟩
      obtain ⟨K, hK⟩ : ∃ K, sh.wt x = K := ⟨_, rfl⟩
      obtain ⟨R, hR⟩ : ∃ R, max V T = R := ⟨_, rfl⟩
      rw [hV] at c6 hv
      rw [hT] at d7 ht
      rw [hK] at d2 hwt
      have hR2 : max (V : Int) (T : Int) = (R : Int) := by omega
      have hR3 : R ≤ 18446744073709551615 := by omega
      have hR4 : (if (V : Int) < (T : Int) then (T : Int) else (V : Int)) = (R : Int) := by split <;> omega
      have hR5 : (if V < T then (T : Int) else (V : Int)) = (R : Int) := by split <;> omega
      have HR := Lib.hid hR
      have HV := Lib.hid hV
      have HT := Lib.hid hT
      have HK := Lib.hid hK
      have HD := H1.out.old ((Upd.refl Nowhere _).drewN 2)
      have HM := fun u => Lib.hid (Sat.sat_muladd R K by' hR3 hwt hb u)
      clear hR hV hT hK hf
      go_wp2_with fail
      go_region
      all_goals
        go_upto_region 10 with fail
      all_goals
        go_region
      all_goals
        go_upto_region 11 with fail
        have h2 : TIn w0.drew.drew own L sh room s := H1.out.old (((Upd.refl _ _).drew).drew)
        have hu2 : Fol w own w0.drew.drew own := HU.out.old (((Upd.refl _ _).drew).drew)
        clear c0 c1 c2 c3 c4 c5 c6 c7 c8 d0 d1 d2 d3 d4 d5 d6 d7 d8 HD
        generalize w0.drew.drew = w2 at *
        obtain ⟨-, -, d2, -, -, -, -, d7, -⟩ := h2.node hx2
        rw [HK.out] at d2
        have zf := h2.frozen hx2 (show 7 < 9 by omega)
        have H2 := Lib.hid h2
        have HU2 := Lib.hid hu2
        clear h2 hu2
        go_wp2_with (refine (HM _).out.mono ?_; rintro e w' ⟨rfl, rfl⟩)
        go_ret
        obtain ⟨own', g1, g2⟩ := H2.out.set hx2 (show 7 < 9 by omega) (.int .u64 (min (R + K * by') 18446744073709551615 : Nat)) sh (tagged sh s i ((x : Nat), a, b, c) by') rfl (fun k => by
          rw [tagged, if_pos ⟨HKD.out, HLF.out⟩]
          by_cases e : k = x
          · subst e
            rw [if_pos rfl]
            simp [ncell, up, mad, HV.out, HT.out, HR.out, HK.out]
          · rw [if_neg e]
            simp [ncell, up, e]) (by simp [tcell, tagged_now, tagged_m]) (by rw [tagged_wn, tagged_c, tagged_H]) (by funext k; simp [qs, tagged_c, tagged_q])
        refine ⟨?_, own', g1, HU2.out.trans g2⟩
        simp [rk, HKD.out, HLF.out, HV.out, HT.out, HR.out]
end Go.Proofs.YtllfloapiliheaaDoor.Tree
namespace Go.Proofs.YtllfloapiliheaaDoor.Tree
open Go.RowKit Go.Proofs BigFrame
open HeapE (El VE Hq q_push)
open WheelR (Ri Wq w_add)
open Cal (ins)
set_option maxHeartbeats 4000000
set_option maxRecDepth 1000000
abbrev TR : TypeId := 74
section
variable {w w1 : World} {own own1 : Nat → Prop} {L : Lay} {sh : Sh} {room : Nat} {s : TS}
theorem enter_ok {i : Nat} {e : El} {b : Nat} (h : TIn w own L sh room (tagged sh s i e b)) (hi : i < sh.n) (hl : (s.q i).length < room) (hc : s.c < 18446744073709551615) :
    Calls Tryd.prog 47 #[.pointer (some ⟨L.bs i, 0, none⟩), .int .u64 (rk sh s i e : Nat), VE e] w fun r w' => r = .returned (.bool true) ∧
      ∃ own', TIn w' own' L sh room (entered sh s i e b) ∧ Fol w own w' own' := by
  obtain ⟨o, h1, h2, h3⟩ := h.heap hi
  rw [tagged_q, tagged_c] at h1
  refine (q_push h1 hl hc (rk sh s i e) e).mono ?_
  rintro r w' ⟨rfl, ⟨own', g1, g2⟩, g3⟩
  obtain ⟨o2, k1, k2⟩ := h3 w' own' (s.c + 1) _ (by rw [tagged_c]; omega) g1 ⟨g2, g3⟩
  rw [tagged_q] at k1
  exact ⟨rfl, o2, k1, k2⟩
theorem hold_ok (h : TIn w own L sh room s) (hl : s.H.length < room) (hc : s.c < 18446744073709551615) (t : Nat) (ht : t ≤ 18446744073709551615) (i b : Nat) :
    Calls Tryd.prog 50 #[.pointer (some ⟨L.hb, 0, none⟩), .int .u64 (t : Nat), .agg #[.int .i64 (i : Nat), .int .u64 (b : Nat)]] w fun r w' => r = .returned (.bool true) ∧
      ∃ own', TIn w' own' L sh room { s with H := ins t ((i, b) : Ri) s.H, c := s.c + 1 } ∧ Fol w own w' own' := by
  obtain ⟨o, h1, h2, h3⟩ := h.wheel
  refine (w_add h1 hl hc t ht i b).mono ?_
  rintro r w' ⟨rfl, own', g1, g2⟩
  obtain ⟨o2, k1, k2⟩ := h3 w' own' s.wn (s.c + 1) _ (by omega) g1 g2
  exact ⟨rfl, o2, k1, k2⟩
/-- What is held fast while an element comes in. -/
theorem fast {i B : Nat} {x : Int} {a b c : Nat} (hi : i < sh.n) (hB : Blk w B (ecell x a b c) TE) (ho : ¬ own B) (h1 : TIn w1 own1 L sh room s) (hF : Fol w own w1 own1) :
    w1.cell? ⟨L.g, i * 9 + 5, none⟩ = some (.pointer (some ⟨L.bs i, 0, none⟩)) ∧ w1.cell? ⟨B, 0, none⟩ = some (.int .i64 x) ∧ w1.cell? ⟨B, 1, none⟩ = some (.int .u32 a) ∧ w1.cell? ⟨B, 2, none⟩ = some (.int .u32 b) ∧ w1.cell? ⟨B, 3, none⟩ = some (.int .u64 c) := by
  obtain ⟨-, -, -, -, -, c5, -, -, -⟩ := h1.node hi
  obtain ⟨b0, b1, b2, b3, -, -, -, -⟩ := cells4 (hB.kept hF.upd ho)
  exact ⟨c5, b0, b1, b2, b3⟩
theorem fast2 {B : Nat} {i b : Nat} (hB : Blk w B #[.int .i64 (i : Nat), .int .u64 (b : Nat)] TR) (ho : ¬ own B) (h1 : TIn w1 own1 L sh room s) (hF : Fol w own w1 own1) :
    w1.cell? ⟨L.b, 1, none⟩ = some (.pointer (some ⟨L.hb, 0, none⟩)) ∧ w1.cell? ⟨B, 0, none⟩ = some (.int .i64 (i : Nat)) ∧ w1.cell? ⟨B, 1, none⟩ = some (.int .u64 (b : Nat)) := by
  obtain ⟨-, t1, -⟩ := h1.fields
  obtain ⟨b0, b1, -⟩ := cells2 (hB.kept hF.upd ho)
  exact ⟨t1, b0, b1⟩
theorem come_ok (hs : sh.Ok) : ∀ (f : Nat) {w : World} {own : Nat → Prop} {s : TS}, TIn w own L sh room s → s.Fit → ∀ {i : Nat}, i < f → i < sh.n → (∀ v, v ≤ i → (s.q v).length < room) → s.H.length < room → s.c + f + 2 < 18446744073709551615 →
    ∀ (x : Nat), sh.leaf i = true ∨ x < sh.n → ∀ (a b c : Nat), a < 4294967296 → ∀ (t : Nat), t ≤ 18446744073709551615 → ∀ (by' : Nat), by' ≤ 18446744073709551615 →
    Calls Tryd.prog 34 #[.pointer (some ⟨L.b, 0, none⟩), .int .u64 (t : Nat), .int .i64 (i : Nat), VE ((x : Nat), a, b, c), .int .u64 (by' : Nat)] w fun e w' => e = .returned (.tuple #[]) ∧
      ∃ own', TIn w' own' L sh room (come sh f s t i ((x : Nat), a, b, c) by') ∧ Fol w own w' own'
  | 0, _, _, _, _, _, i, h0, _, _, _, _, _, _, _, _, _, _, _, _, _, _ => absurd h0 (Nat.not_lt_zero _)
  | f + 1, w, own, s, h, hf, i, hif, hi, hrm, hH, hc, x, hx, a, b, c, ha, t, ht, by', hb => by
    have IH := fun {w : World} {own : Nat → Prop} {s : TS} (h1 : TIn w own L sh room s) => Lib.hid (come_ok hs f h1)
    obtain ⟨e0, he0⟩ : ∃ e0 : El, (((x : Nat) : Int), a, b, c) = e0 := ⟨_, rfl⟩
    obtain ⟨w0, hw0⟩ : ∃ w0, w0 = w.alloc (.cells (ecell x a b c) TE) := ⟨_, rfl⟩
    have hno : ¬ own w.heap.size := fun h9 => absurd (h.lt h9) (Nat.lt_irrefl _)
    obtain ⟨h1, hB⟩ := h.box (ecell x a b c) TE
    rw [← hw0] at h1 hB
    have hU : Fol w own w0 own := (Fol.refl _ _).old (by rw [hw0]; exact (Upd.refl _ _).alloc _)
    obtain ⟨t0, -⟩ := h1.fields
    obtain ⟨d0, d1, d2, d3, d4, d5, d6, d7, d8⟩ := h1.node hi
    obtain ⟨b0, b1, b2, b3, z0, z1, z2, z3⟩ := cells4 hB
    obtain ⟨B, hBB⟩ : ∃ B, w.heap.size = B := ⟨_, rfl⟩
    rw [hBB] at hno hB b0 b1 b2 b3 z0 z1 z2 z3
    obtain ⟨s3, hs3⟩ : ∃ s3, entered sh s i e0 by' = s3 := ⟨_, rfl⟩
    have hRK := fun (u : World) (o : Nat → Prop) (hu : TIn u o L sh room s) => Lib.hid (rank_ok hu hs hf hi x hx a b c ha by' hb)
    have hPU := fun (u : World) (o : Nat → Prop) (hu : TIn u o L sh room (tagged sh s i e0 by')) => Lib.hid (enter_ok hu hi (hrm i (Nat.le_refl _)) (by omega))
    have hf3 : s3.Fit := hs3 ▸ fit_entered hf i e0 by'
    have hc3 : s3.c = s.c + 1 := hs3 ▸ rfl
    have hH3 : s3.H = s.H := hs3 ▸ tagged_H ..
    have hq3 : ∀ v, v < i → (s3.q v).length < room := fun v hv => by
      rw [← hs3]
      show (up s.q i _ v).length < room
      rw [up_off _ (by omega)]; exact hrm v (by omega)
    rw [he0] at hRK
    have hVE0 : VE e0 = .agg #[.int .i64 (x : Nat), .int .u32 a, .int .u32 b, .int .u64 c] := by rw [← he0]
    rw [hVE0] at hRK hPU
    have hCM : come sh (f + 1) s t i ((x : Nat), a, b, c) by' = if i = 0 then s3 else if sh.gap i = 0 then come sh f s3 t (sh.par i) (chi i) by' else holds sh s3 t i by' := by rw [he0, ← hs3]; rfl
    have HCM := Lib.hid hCM
    rw [hs3] at hPU
    have H1 := Lib.hid h1
    have HU := Lib.hid hU
    have HB := Lib.hid hB
    have HNO := Lib.hid hno
    have HF3 := Lib.hid hf3
    have HC3 := Lib.hid hc3
    have HH3 := Lib.hid hH3
    have HQ3 := Lib.hid hq3
    have HS3 := Lib.hid hs3
    have HRM := Lib.hid hrm
    have HHR := Lib.hid hH
    have HC := Lib.hid hc
    have HE0 := Lib.hid he0
    clear hCM hVE0 he0
    clear h h1 hB hU hno hf3 hc3 hH3 hq3 hs3 hrm hH hc hf hx
    go_enter Tryd.func34, Tryd.ntmps34
    go_upto_region 1 with fail
    generalize w.alloc (.cells (ecell x a b c) TE) = wz at hw0 ⊢
    subst hw0
    try simp only [hBB]
    go_upto_region 2 with fail
    have HD1 := Lib.hid (H1.out.old ((Upd.refl Nowhere w0).drew))
    have F0 := Lib.hid ((Fol.refl w0 own).old ((Upd.refl Nowhere w0).drew))
    have hS0 := fast hi HB.out HNO.out HD1.out F0.out
    clear t0 d0 d1 d2 d3 d4 d5 d6 d7 d8 b0 b1 b2 b3 z0 z1 z2 z3
    go_region_held3 (fun w' => w'.cell? ⟨L.g, i * 9 + 5, none⟩ = some (.pointer (some ⟨L.bs i, 0, none⟩)) ∧ w'.cell? ⟨B, 0, none⟩ = some (.int .i64 (x : Nat)) ∧ w'.cell? ⟨B, 1, none⟩ = some (.int .u32 a) ∧ w'.cell? ⟨B, 2, none⟩ = some (.int .u32 b) ∧ w'.cell? ⟨B, 3, none⟩ = some (.int .u64 c)) (first | exact hS0 | assumption) (first
      | (go_at_call 48; refine (hRK _ _ HD1.out).out.mono ?_; rintro e w11 ⟨rfl, own11, h11, f11⟩; have g11 := F0.out.trans f11; have hS11 := fast hi HB.out HNO.out h11 g11)
      | (go_at_call 47; refine (hPU _ _ h11).out.mono ?_; rintro e w12 ⟨rfl, own12, h12, f12⟩; have g12 := g11.trans f12; have hS12 := fast hi HB.out HNO.out h12 g12))
    all_goals
      have G12 := Lib.hid (HU.out.trans g12)
      have hno2 : ¬ own12 w12.heap.size := fun h9 => absurd (h12.lt h9) (Nat.lt_irrefl _)
      obtain ⟨h13, hB3⟩ := h12.box #[.int .i64 (i : Nat), .int .u64 by'] TR
      obtain ⟨w13, hw13⟩ : ∃ w13, w13 = w12.alloc (.cells #[.int .i64 (i : Nat), .int .u64 by'] TR) := ⟨_, rfl⟩
      have g13 : Fol w12 own12 w13 own12 := (Fol.refl _ _).old (by rw [hw13]; exact (Upd.refl _ _).alloc _)
      rw [← hw13] at h13 hB3
      have G13 := Lib.hid (G12.out.trans g13)
      have H13 := Lib.hid h13
      have HB3 := Lib.hid hB3
      have HNO2 := Lib.hid hno2
      clear h12 g12 g13 hS0 hS11 hS12 h11 g11 f11 f12 h13 hB3 hno2
      go_upto_region 7 with fail
      generalize w12.alloc (.cells #[.int .i64 (i : Nat), .int .u64 by'] TR) = wz at hw13 ⊢
      subst hw13
      obtain ⟨t0, t1, -⟩ := H13.out.fields
      obtain ⟨d0, d1, d2, d3, d4, d5, d6, d7, d8⟩ := H13.out.node hi
      obtain ⟨BU, hBU⟩ : ∃ BU, w12.heap.size = BU := ⟨_, rfl⟩
      rw [hBU] at HB3 HNO2
      try simp only [hBU]
      clear HD1 F0 H1 HU HB HNO hRK hPU HRM HE0 HS3
      by_cases h0 : i = 0
      · have q0 : ((i : Int) == 0) = true := by simp; omega
        have HE := Lib.hid h0
        rw [if_pos h0] at HCM
        clear h0
        go_wp2_with fail
        exact bodyPost_end (results_none rfl _ _ _) rfl ⟨rfl, own12, by rw [HCM.out]; exact H13.out, G13.out⟩
      · have q0 : ((i : Int) == 0) = false := by simp; omega
        have HE := Lib.hid h0
        rw [if_neg h0] at HCM
        have hpar := hs.par i hi h0
        by_cases hg : sh.gap i = 0
        · rw [if_pos hg] at HCM
          rw [hg] at d3
          have hih := (IH H13.out).out HF3.out (show sh.par i < f by omega) (by omega) (fun v hv => HQ3.out v (by omega)) (by rw [HH3.out]; exact HHR.out) (by rw [HC3.out]; have := HC.out; omega) i (.inr hi) 0 0 0 (by omega) t ht by' hb
          have HIH := Lib.hid hih
          clear h0 hih hg
          go_wp2_with fail
          refine HIH.out.mono ?_
          rintro e w14 ⟨rfl, own14, h14, f14⟩
          go_wp2_with fail
          exact bodyPost_end (results_none rfl _ _ _) rfl ⟨rfl, own14, by rw [HCM.out]; exact h14, G13.out.trans f14⟩
        · rw [if_neg hg] at HCM
          obtain ⟨G, hG⟩ : ∃ G, sh.gap i = G := ⟨_, rfl⟩
          obtain ⟨Fr, hFr⟩ : ∃ Fr, s3.fr i = Fr := ⟨_, rfl⟩
          obtain ⟨M, hM⟩ : ∃ M, max t Fr = M := ⟨_, rfl⟩
          have hGle : G ≤ 18446744073709551615 := hG ▸ hs.gap i hi
          have hFle : Fr ≤ 18446744073709551615 := hFr ▸ HF3.out.fr i
          rw [hG] at hg d3
          rw [hFr] at d8
          have g0 : ((G : Int) == 0) = false := by simp; omega
          have hM2 : max (t : Int) (Fr : Int) = (M : Int) := by omega
          have hM4 : (if (t : Int) < (Fr : Int) then (Fr : Int) else (t : Int)) = (M : Int) := by split <;> omega
          have hM5 : (if t < Fr then (Fr : Int) else (t : Int)) = (M : Int) := by split <;> omega
          have hM3 : M ≤ 18446744073709551615 := by omega
          have zf := H13.out.frozen hi (show 8 < 9 by omega)
          obtain ⟨own4, h4, f4⟩ := H13.out.set hi (show 8 < 9 by omega) (.int .u64 (min (M + G * by') 18446744073709551615 : Nat)) sh { s3 with fr := up s3.fr i (mad M G by') } rfl (fun k => by
            by_cases e : k = i
            · subst e
              rw [if_pos rfl]
              simp [ncell, up, mad]
            · rw [if_neg e]
              simp [ncell, up, e]) rfl rfl rfl
          have hCM : holds sh s3 t i by' = { ({ s3 with fr := up s3.fr i (mad M G by') } : TS) with H := ins M ((i, by') : Ri) s3.H, c := s3.c + 1 } := by
            unfold holds; rw [hFr, hM, hG]
          have HCM2 := Lib.hid (HCM.out.trans hCM)
          have HM := fun u => Lib.hid (Sat.sat_muladd M G by' hM3 hGle hb u)
          have HG := Lib.hid hg
          have H4 := Lib.hid h4
          have F4 := Lib.hid (G13.out.trans f4)
          have hno5 : ¬ own4 BU := fun h9 => (f4.at_ _ h9).elim (fun h8 => HNO2.out h8) (fun h8 => absurd HB3.out.lt (Nat.not_lt.2 h8))
          have hB5 := HB3.out.kept f4.upd (fun h9 => HNO2.out h9)
          have HB5 := Lib.hid hB5
          have HNO5 := Lib.hid hno5
          clear hG hFr hM hCM h4 f4 hno5 hB5 h0 hg
          go_wp2_with fail
          refine (HM _).out.mono ?_
          rintro e w' ⟨rfl, rfl⟩
          go_upto_region 6 with fail
          generalize w13.setCell ⟨L.g, i * 9 + 8, none⟩ (.int .u64 (min (M + G * by') 18446744073709551615 : Nat)) = w4 at *
          have hAD := fun (u : World) (o : Nat → Prop) (hu : TIn u o L sh room { s3 with fr := up s3.fr i (mad M G by') }) => Lib.hid (hold_ok hu (show s3.H.length < room by rw [HH3.out]; exact HHR.out) (show s3.c < _ by rw [HC3.out]; have := HC.out; omega) M hM3 i by')
          have HD5 := Lib.hid (H4.out.old ((Upd.refl Nowhere w4).drew))
          have F5 := Lib.hid ((Fol.refl w4 own4).old ((Upd.refl Nowhere w4).drew))
          have hS0 := fast2 HB5.out HNO5.out HD5.out F5.out
          clear t0 t1 d0 d1 d2 d3 d4 d5 d6 d7 d8 zf hM2 hM4 hM5 HM
          go_region_held3 (fun w' => w'.cell? ⟨L.b, 1, none⟩ = some (.pointer (some ⟨L.hb, 0, none⟩)) ∧ w'.cell? ⟨BU, 0, none⟩ = some (.int .i64 (i : Nat)) ∧ w'.cell? ⟨BU, 1, none⟩ = some (.int .u64 by')) (first | exact hS0 | assumption) (first
            | (go_at_call 50; refine (hAD _ _ HD5.out).out.mono ?_; rintro e w15 ⟨rfl, own15, h15, f15⟩; have g15 := F5.out.trans f15; have hS15 := fast2 HB5.out HNO5.out h15 g15))
          all_goals
            go_wp2_with fail
            exact bodyPost_end (results_none rfl _ _ _) rfl ⟨rfl, own15, by rw [HCM2.out]; exact h15, F4.out.trans g15⟩
end
end Go.Proofs.YtllfloapiliheaaDoor.Tree
namespace Go.Proofs.YtllfloapiliheaaDoor.Tree
open HeapE (El VE)
open WheelR (Ri)
open Cal (ins Rises ins_mem ins_len ins_rises ins_behind)
theorem due_split (t : Nat) : ∀ {l : List (Nat × Ri)}, Rises l → l.filter (fun a => decide (a.1 ≤ t)) ++ l.filter (fun a => decide (t < a.1)) = l
  | [], _ => rfl
  | a :: l, h => by
    have h1 := List.pairwise_cons.1 h
    by_cases ha : a.1 ≤ t
    · rw [List.filter_cons_of_pos (by simpa using ha), List.filter_cons_of_neg (by simpa using ha), List.cons_append, due_split t h1.2]
    · have e1 : (a :: l).filter (fun a => decide (a.1 ≤ t)) = [] := List.filter_eq_nil_iff.2 (fun b hb => by
        rcases List.mem_cons.1 hb with rfl | hb
        · simpa using ha
        · have := h1.1 b hb; simp; omega)
      have e2 : (a :: l).filter (fun a => decide (t < a.1)) = a :: l := List.filter_eq_self.2 (fun b hb => by
        rcases List.mem_cons.1 hb with rfl | hb
        · simp; omega
        · have := h1.1 b hb; simp; omega)
      rw [e1, e2]; rfl
/-- On the way to T. -/
structure On (sh : Sh) (room B : Nat) (T s : TS) : Prop where
  bal : Bal sh s 0
  tot : Tot s 0
  le : s.m ≤ room
  ends : rises sh (meas s.H) s = T
  cb : s.c + 34 * meas s.H ≤ B
section
variable {sh : Sh} {room B : Nat} {T s : TS}
theorem On.done (h : On sh room B T s) (hs : Still s) : s = T := by
  have := h.ends
  rw [rises_still _ hs] at this
  exact this
theorem On.due (h : On sh room B T s) {t : Nat} {x : Ri} {r : List (Nat × Ri)} (hH : s.H = (t, x) :: r) (ht : t ≤ s.now) :
    s.wn ≤ t ∧ t ≤ 18446744073709551615 ∧ On sh room B T (ahead (s.H.filter (fun a => decide (a.1 ≤ t))) { s with wn := t, H := s.H.filter (fun a => decide (t < a.1)) }) ∧ (∀ a ∈ s.H.filter (fun a => decide (a.1 ≤ t)), a.1 = t) ∧ 0 < (s.H.filter (fun a => decide (a.1 ≤ t))).length ∧ meas (ahead (s.H.filter (fun a => decide (a.1 ≤ t))) { s with wn := t, H := s.H.filter (fun a => decide (t < a.1)) }).H = meas s.H := by
  obtain ⟨v, b⟩ := x
  obtain ⟨h1, h2, h3, h4, h5, h6, h7⟩ := headless h.bal hH
  have hle : ∀ a ∈ s.H, t ≤ a.1 := fun a ha => by
    rw [hH] at ha
    rcases List.mem_cons.1 ha with rfl | ha
    · exact Nat.le_refl _
    · exact h2 a ha
  have e1 : ahead (s.H.filter (fun a => decide (a.1 ≤ t))) { s with wn := t, H := s.H.filter (fun a => decide (t < a.1)) } = { s with wn := t } := by
    unfold ahead
    simp only [due_split t h.bal.hr]
  refine ⟨h3, h4, ?_, fun a ha => ?_, ?_, by rw [e1]⟩
  · rw [e1]
    refine ⟨wn_bal h.bal hle ht, h.tot, h.le, ?_, h.cb⟩
    rw [← h.ends]
    obtain ⟨k, hk⟩ : ∃ k, meas s.H = k + 1 := ⟨meas s.H - 1, by rw [hH, meas_cons]; omega⟩
    show rises sh (meas s.H) _ = _
    rw [hk]
    show rises sh k (rise1 sh { s with wn := t }) = rises sh k (rise1 sh s)
    congr 1
    unfold rise1
    simp only [hH]
    rw [if_pos ht, if_pos ht]
  · obtain ⟨ha1, ha2⟩ := List.mem_filter.1 ha
    have := hle a ha1
    have : a.1 ≤ t := by simpa using ha2
    omega
  · rw [hH, List.filter_cons_of_pos (by simp)]
    simp
theorem On.step (hs : sh.Ok) {t v b : Nat} {D : List (Nat × Ri)} (h : On sh room B T (ahead ((t, (v, b)) :: D) s)) (hD : ∀ a ∈ D, a.1 = t) (hw : s.wn = t) (hn : t ≤ s.now) (hB : B + 40 < 18446744073709551615) :
    v < sh.n ∧ sh.par v < sh.n ∧ sh.par v < 32 ∧ (∀ u, u ≤ sh.par v → (s.q u).length < room) ∧ s.H.length < room ∧ s.c + 34 < 18446744073709551615 ∧ s.Fit ∧ b ≤ 18446744073709551615 ∧ t ≤ 18446744073709551615 ∧
      On sh room B T (ahead D (come sh 32 s t (sh.par v) (chi v) b)) ∧ (come sh 32 s t (sh.par v) (chi v) b).wn = t ∧ (come sh 32 s t (sh.par v) (chi v) b).now = s.now ∧ meas (ahead D (come sh 32 s t (sh.par v) (chi v) b)).H < meas (ahead ((t, (v, b)) :: D) s).H := by
  obtain ⟨g1, g2, g3, g4, g5, g6, g7⟩ := rise1_some hs h.bal (hH := rfl) hn
  obtain ⟨k1, k2, k3, k4, k5, k6, k7⟩ := headless h.bal rfl
  have e1 : ({ (ahead ((t, (v, b)) :: D) s) with H := D ++ s.H, wn := t } : TS) = ahead D s := by
    subst hw; rfl
  change rise1 sh (ahead ((t, (v, b)) :: D) s) = come sh 32 ({ (ahead ((t, (v, b)) :: D) s) with H := D ++ s.H, wn := t } : TS) t (sh.par v) (chi v) b at g1
  change Bal sh ({ (ahead ((t, (v, b)) :: D) s) with H := D ++ s.H, wn := t } : TS) v at g2
  rw [e1] at g1 g2
  rw [come_ahead D (fun a ha => by rw [hD a ha]; exact Nat.le_refl _)] at g1
  have htot := h.tot
  have hle := h.le
  have hcb := h.cb
  have hsle := hs.le
  have hL : (ahead ((t, (v, b)) :: D) s).H.length = D.length + s.H.length + 1 := by
    show ((t, (v, b)) :: D ++ s.H).length = _
    simp
  have htot2 : s.m = (s.q 0).length + (ahead ((t, (v, b)) :: D) s).H.length + 0 := htot
  have hle2 : s.m ≤ room := hle
  have hcb2 : s.c + 34 * meas (ahead ((t, (v, b)) :: D) s).H ≤ B := hcb
  have hb1 : Tot (ahead D s) 1 := by
    show s.m = (s.q 0).length + (D ++ s.H).length + 1
    rw [htot2, hL, List.length_append]; omega
  have hx := k6
  have hlt := hs.par v k5 k6
  have hroom := g2.room hs hb1 (room := room) (i := sh.par v) hle2 (.inr g4)
  have hc9 : Came (ahead D s) (ahead D (come sh 32 s t (sh.par v) (chi v) b)) (sh.par v) := by
    have h9 := (come_bal hs 32 (s := ahead D s) (x := v) (i := sh.par v) (e := chi v) (t := t) (b := b) (by omega) g2 (by omega) g3 (show s.wn ≤ t by omega) k4 k7).2
    rw [come_ahead D (fun a ha => by rw [hD a ha]; exact Nat.le_refl _)] at h9
    exact h9
  refine ⟨k5, by omega, by omega, fun u hu => hroom u hu (by omega), by rw [hL] at htot2; omega, by omega, ⟨g2.fit.vi, g2.fit.tg, g2.fit.fr⟩, by omega, k4, ?_, hc9.wn.trans hw, hc9.now, by rw [← g1]; exact g7⟩
  rw [← g1]
  refine ⟨g5, ?_, by rw [g6.m]; exact hle, ?_, Nat.le_trans g6.c1 hcb⟩
  · unfold Tot
    rw [g6.m, g6.len]
    exact htot
  · rw [← rises_step hs h.bal rfl hn]
    exact h.ends
/-- When time begins to go by. -/
theorem On.start (h : Good sh room s) {t : Nat} (ht : t ≤ 18446744073709551615) : On sh room (s.c + 34 * meas s.H) (pass sh s t) { s with now := max s.now t } :=
  ⟨later_bal h.bal ht, h.tot, h.le, rfl, Nat.le_refl _⟩
/-- What Next tells. -/
def nx (H : List (Nat × Ri)) : Nat × Bool :=
  match H with
  | [] => (0, false)
  | a :: _ => (a.1, true)
theorem nx_true {H : List (Nat × Ri)} (h : (nx H).2 = true) : ∃ t x r, H = (t, x) :: r ∧ (nx H).1 = t := by
  cases H with
  | nil => cases h
  | cons a r => exact ⟨a.1, a.2, r, rfl, rfl⟩
theorem nx_false {H : List (Nat × Ri)} (h : (nx H).2 = false) : H = [] := by
  cases H with
  | nil => rfl
  | cons a r => cases h
theorem still_of (hr : Rises s.H) {t : Nat} {x : Ri} {r : List (Nat × Ri)} (hH : s.H = (t, x) :: r) (ht : s.now < t) : Still s := fun a ha => by
  rw [hH] at ha hr
  rcases List.mem_cons.1 ha with rfl | ha
  · exact ht
  · have := (List.pairwise_cons.1 hr).1 a ha
    show s.now < a.1
    have : t ≤ a.1 := this
    omega
end
end Go.Proofs.YtllfloapiliheaaDoor.Tree
namespace Go.Proofs.YtllfloapiliheaaDoor.Tree
open Go.RowKit Go.Proofs BigFrame
open HeapE (El VE Hq q_push)
open WheelR (Ri Wq w_next w_next0 w_due wheelC KR TI)
open Cal (ins)
set_option maxHeartbeats 4000000
set_option maxRecDepth 1000000
section
variable {w w' w1 : World} {own own' own1 : Nat → Prop} {L : Lay} {sh : Sh} {room : Nat} {s : TS}
/-- The table stands, off the tree. -/
structure TabOff (w : World) (own : Nat → Prop) : Prop where
  tab : WheelR.Tab w
  off : ¬ own (Tryd.tz64_ren.g 1)
  low : Tryd.tz64_ren.g 1 < w.heap.size
theorem TabOff.fol (h : TabOff w own) (hf : Fol w own w' own') : TabOff w' own' :=
  ⟨h.tab.old hf.upd h.off, fun hk => (hf.at_ _ hk).elim h.off (fun h9 => absurd h.low (Nat.not_lt.2 h9)), Nat.lt_of_lt_of_le h.low hf.upd.size⟩
theorem next_ok (h : TIn w own L sh room s) (hT : TabOff w own) : Calls Tryd.prog 43 #[.pointer (some ⟨L.hb, 0, none⟩)] w fun e w' => e = .returned (.tuple #[.int .u64 ((nx s.H).1 : Nat), .bool (nx s.H).2]) ∧ Upd Nowhere w w' := by
  obtain ⟨o, h1, _, _⟩ := h.wheel
  cases hH : s.H with
  | nil => rw [hH] at h1; exact w_next0 h1
  | cons a r => obtain ⟨t, x⟩ := a; rw [hH] at h1; exact w_next h1 hT.tab
/-- Two things that are one are two. -/
theorem Sep.two {A R : Comp} {l1 l2 : List Comp} (h : Sep w (l1 ++ sepC [A, R] :: l2) own) : ∃ oR o', R.P w oR ∧ Sep w (l1 ++ A :: l2) o' ∧ (∀ k, oR k → ¬ o' k) ∧ ∀ k, own k ↔ oR k ∨ o' k := by
  have h1 := Sep.perm List.perm_middle h
  obtain ⟨o, o', ⟨oA, oN, hA, ⟨oR, oE, hR, hE, hd2, hi2⟩, hd1, hi1⟩, hrest, hd, hi⟩ := h1
  refine ⟨oR, fun k => oA k ∨ o' k, hR, Sep.perm List.perm_middle.symm ⟨oA, o', hA, hrest, fun k hk => hd k ((hi1 k).2 (.inl hk)), fun _ => Iff.rfl⟩, fun k hk h9 => ?_, fun k => ?_⟩
  · rcases h9 with h9 | h9
    · exact hd1 k h9 ((hi2 k).2 (.inl hk))
    · exact hd k ((hi1 k).2 (.inr ((hi2 k).2 (.inl hk)))) h9
  · rw [hi k, hi1 k, hi2 k]
    constructor
    · rintro ((h | h | h) | h)
      · exact .inr (.inl h)
      · exact .inl h
      · exact absurd h (hE k)
      · exact .inr (.inr h)
    · rintro (h | h | h)
      · exact .inl (.inr (.inl h))
      · exact .inl (.inl h)
      · exact .inr h
theorem due_ok (h : TIn w own L sh room s) (hT : TabOff w own) {t : Nat} (ht : s.wn ≤ t) (ht2 : t ≤ 18446744073709551615) : Calls Tryd.prog 44 #[.pointer (some ⟨L.hb, 0, none⟩), .int .u64 t] w fun e w' => ∃ v oR own', e = .returned v ∧
      (rowW TI 2 v (s.H.filter (fun a => decide (a.1 ≤ t))).length ((s.H.filter (fun a => decide (a.1 ≤ t))).flatMap (fun a => KR a.2))).P w' oR ∧ TIn w' own' L sh room { s with wn := t, H := s.H.filter (fun a => decide (t < a.1)) } ∧ (∀ k, oR k → ¬ own' k) ∧ Fol w own w' own' := by
  obtain ⟨o, h1, h2, h3⟩ := Sep.foc (wheelC L.hb room s.wn s.c s.H) ((List.range sh.n).map (qs L room s)) [blkC L.b (tcell L sh room s) TT, rowW TN 9 (.slice (some ⟨L.g, 0, none⟩) sh.n L.cap) sh.n ((List.range sh.n).flatMap (ncell L sh s))] h
  have hm : max s.wn t = t := by omega
  have hd := w_due h1 hT.tab t ht2
  rw [hm] at hd
  refine hd.mono ?_
  rintro e w' ⟨v, rfl, hr, o2, h4, h5, h6⟩
  have hblk : ∀ k, v.ownBlock = some k → w.heap.size ≤ k ∧ k < w'.heap.size := fun k hk => hr.lt k hk
  have hrow : (rowW TI 2 v (s.H.filter (fun a => decide (a.1 ≤ t))).length ((s.H.filter (fun a => decide (a.1 ≤ t))).flatMap (fun a => KR a.2))).P w' (fun k => v.ownBlock = some k) := ⟨ownsRow_base hr (Nat.zero_le _), fun _ => Iff.rfl⟩
  have hC : (sepC [wheelC L.hb room t s.c (s.H.filter (fun a => decide (t < a.1))), rowW TI 2 v (s.H.filter (fun a => decide (a.1 ≤ t))).length ((s.H.filter (fun a => decide (a.1 ≤ t))).flatMap (fun a => KR a.2))]).P w' (fun k => o2 k ∨ v.ownBlock = some k) :=
    ⟨o2, _, h4, Sep.one hrow, fun k hk h9 => h6 k h9 hk, fun _ => Iff.rfl⟩
  obtain ⟨own', a1, a2⟩ := h3 w' _ _ hC ⟨fun k hk => hk.elim (h5.at_ k) (fun h9 => .inr (hblk k h9).1), h5.upd⟩
  obtain ⟨oR, o', b1, b2, b3, b4⟩ := Sep.two a1
  refine ⟨v, oR, o', rfl, b1, ?_, b3, a2.sub (fun k hk => (b4 k).2 (.inr hk))⟩
  have e : ∀ (A B C : Comp) (l : List Comp), [A, B] ++ C :: l = [A, B, C] ++ l := fun _ _ _ _ => rfl
  rw [e] at b2
  exact Sep.impsP (w := w') _ (qs L room { s with wn := t, H := s.H.filter (fun a => decide (t < a.1)) }) (fun k _ o hk => hk) _ b2
/-- What is held fast while one rises. -/
theorem fast3 {B v b : Nat} (hv : v < sh.n) (hB : Blk w B #[.int .i64 (v : Nat), .int .u64 (b : Nat)] TR) (ho : ¬ own B) (h1 : TIn w1 own1 L sh room s) (hF : Fol w own w1 own1) :
    w1.cell? ⟨L.b, 0, none⟩ = some (.slice (some ⟨L.g, 0, none⟩) sh.n L.cap) ∧ w1.cell? ⟨L.g, v * 9, none⟩ = some (.int .i64 (sh.par v : Nat)) ∧ w1.cell? ⟨B, 0, none⟩ = some (.int .i64 (v : Nat)) ∧ w1.cell? ⟨B, 1, none⟩ = some (.int .u64 (b : Nat)) := by
  obtain ⟨t0, -⟩ := h1.fields
  obtain ⟨c0, -⟩ := h1.node hv
  obtain ⟨b0, b1, -⟩ := cells2 (hB.kept hF.upd ho)
  exact ⟨t0, c0, b0, b1⟩
theorem kr_at {D : List (Nat × Ri)} {k t v b : Nat} (h : D[k]? = some (t, (v, b))) : (D.flatMap (fun a => KR a.2))[k * 2]? = some (.int .i64 (v : Nat)) ∧ (D.flatMap (fun a => KR a.2))[k * 2 + 1]? = some (.int .u64 (b : Nat)) := by
  induction D generalizing k with
  | nil => simp at h
  | cons a r ih =>
    rw [List.flatMap_cons]
    have hx : (KR a.2).length = 2 := rfl
    cases k with
    | zero =>
      simp only [List.getElem?_cons_zero] at h; cases h
      exact ⟨rfl, rfl⟩
    | succ k =>
      simp only [List.getElem?_cons_succ] at h
      rw [List.getElem?_append_right (by rw [hx]; omega), List.getElem?_append_right (by rw [hx]; omega), hx, show (k + 1) * 2 - 2 = k * 2 by omega, show (k + 1) * 2 + 1 - 2 = k * 2 + 1 by omega]
      exact ih h
theorem pass_ok (hs : sh.Ok) (h : TIn w own L sh room s) (hg : Good sh room s) (hr : room ≤ 4096) (hc : s.c + 5000000 < 18446744073709551615) (hT : TabOff w own) {t : Nat} (ht : t ≤ 18446744073709551615) :
    Calls Tryd.prog 30 #[.pointer (some ⟨L.b, 0, none⟩), .int .u64 (t : Nat)] w fun e w' => e = .returned (.tuple #[]) ∧
      ∃ own', TIn w' own' L sh room (pass sh s t) ∧ Fol w own w' own' := by
  obtain ⟨B, hB⟩ : ∃ B, s.c + 34 * meas s.H = B := ⟨_, rfl⟩
  have hme := hg.meas hs hr
  have hB2 : B + 40 < 18446744073709551615 := by omega
  have hst := On.start hg ht
  obtain ⟨T, hTT⟩ : ∃ T, pass sh s t = T := ⟨_, rfl⟩
  obtain ⟨N, hN⟩ : ∃ N, max s.now t = N := ⟨_, rfl⟩
  rw [hB, hTT, hN] at hst
  rw [hTT]
  obtain ⟨own1, h1, f1⟩ := h.put 2 (.int .u64 (N : Nat)) { s with now := N } (by simp [tcell]) (fun _ => rfl) rfl rfl
  obtain ⟨t0, t1, t2, t3, t4, z⟩ := h.fields
  have z2 := z 2
  obtain ⟨now, hnow⟩ : ∃ now, s.now = now := ⟨_, rfl⟩
  rw [hnow] at t2 hN
  have hM2 : max (now : Int) (t : Int) = (N : Int) := by omega
  have hM4 : (if (now : Int) < (t : Int) then (t : Int) else (now : Int)) = (N : Int) := by split <;> omega
  have hM5 : (if now < t then (t : Int) else (now : Int)) = (N : Int) := by split <;> omega
  have HST := Lib.hid hst
  have H1 := Lib.hid h1
  have F1 := Lib.hid f1
  have HT := Lib.hid (hT.fol f1)
  have HB2 := Lib.hid hB2
  clear h hg hc hT hB hme hB2 hst hTT hN h1 f1 hnow
  go_enter Tryd.func30, Tryd.ntmps30
  go_upto_region 1 with fail
  generalize w.setCell ⟨L.b, 2, none⟩ (.int .u64 (N : Nat)) = wa at *
  clear t0 t1 t2 t3 t4 z z2 hM2 hM4 hM5
  obtain ⟨-, t1, -⟩ := H1.out.fields
  have HNX := Lib.hid (next_ok H1.out HT.out)
  go_wp2_with fail
  refine HNX.out.mono ?_
  rintro e w2 ⟨rfl, u2⟩
  have H2 := Lib.hid (H1.out.old u2)
  have F2 := Lib.hid (F1.out.old u2)
  have HT2 := Lib.hid (HT.out.fol ((Fol.refl _ _).old u2))
  clear t1 HNX u2 H1 F1 HT
  go_wp2_with fail
  go_loopg [4, 5] (meas s.H + 1) (fun gk v4 v5 wr => ∃ sM own2, meas sM.H < gk ∧ v4 = .int .u64 ((nx sM.H).1 : Nat) ∧ v5 = .bool (nx sM.H).2 ∧ TIn wr own2 L sh room sM ∧ Fol w own wr own2 ∧ TabOff wr own2 ∧ On sh room B T sM ∧ sM.now = N)
  case atStart => exact ⟨{ s with now := N }, own1, Nat.lt_succ_self _, rfl, rfl, H2.out, F2.out, HT2.out, HST.out, rfl⟩
  case round =>
    obtain ⟨sM, own2, hgk, rfl, rfl, hTI, hFo, hTo, hOn, hNow⟩ := hrel
    obtain ⟨w2, rfl⟩ : ∃ x, x = wr := ⟨_, rfl⟩
    have H3 := Lib.hid hTI
    have F3 := Lib.hid hFo
    have HT3 := Lib.hid hTo
    have HON := Lib.hid hOn
    have HGK := Lib.hid hgk
    have HNW := Lib.hid hNow
    clear H2 F2 HT2 HST hTI hFo hTo hOn hgk hNow
    obtain ⟨-, t1, t2, -⟩ := H3.out.fields
    rw [HNW.out] at t2
    cases hnx : (nx sM.H).2 with
    | false =>
      have hE := nx_false hnx
      have HE := Lib.hid hE
      clear hE
      obtain ⟨v1, hv1⟩ : ∃ v1, (nx sM.H).1 = v1 := ⟨_, rfl⟩
      rw [hv1]
      clear hv1 hnx
      go_wp2_with fail
      go_end0
      have hT0 := HON.out.done (fun a ha => by rw [HE.out] at ha; cases ha)
      exact ⟨rfl, own2, hT0 ▸ H3.out, F3.out⟩
    | true =>
      obtain ⟨a0, x0, r0, hH, ha0⟩ := nx_true hnx
      rw [ha0]
      clear ha0 hnx
      by_cases hle : a0 ≤ N
      · have d1 : decide ((a0 : Int) ≤ (N : Int)) = true := decide_eq_true (by omega)
        have d2 : decide (a0 ≤ N) = true := decide_eq_true hle
        obtain ⟨q1, q2, q3, q4, q5, q6⟩ := HON.out.due hH (by rw [HNW.out]; exact hle)
        have HDU := Lib.hid (due_ok H3.out HT3.out q1 q2)
        obtain ⟨D, hD⟩ : ∃ D, sM.H.filter (fun a => decide (a.1 ≤ a0)) = D := ⟨_, rfl⟩
        obtain ⟨n, hn⟩ : ∃ n, D.length = n := ⟨_, rfl⟩
        rw [hD] at HDU q3 q4 q5 q6
        rw [hn] at HDU q5
        have HQ3 := Lib.hid q3
        have HQ4 := Lib.hid q4
        have HQ6 := Lib.hid q6
        have HN := Lib.hid hn
        have hle2 : a0 ≤ N := hle
        have hn4 : n ≤ 4096 := by
          have e1 := HON.out.tot
          have e2 := HON.out.le
          have e3 := List.length_filter_le (fun a : Nat × Ri => decide (a.1 ≤ a0)) sM.H
          unfold Tot at e1
          rw [hD, hn] at e3
          omega
        clear q1 q3 q4 q6 hn hD hH hle
        go_wp2_with fail
        refine HDU.out.mono ?_
        rintro e w3 ⟨v, oR, own3, rfl, hrow, hTI, hdis, hFo⟩
        obtain ⟨g, cp, rfl⟩ := rowW_arr hrow q5
        have H4 := Lib.hid hTI
        have F4 := Lib.hid (F3.out.trans hFo)
        have HT4 := Lib.hid (HT3.out.fol hFo)
        have HR4 := Lib.hid hrow
        have HD4 := Lib.hid hdis
        clear HDU hrow hTI hdis hFo t1 t2 d1 d2 H3 F3 HT3
        go_wp2_with fail
        go_loopw [49] (fun i wr => ∃ k : Nat, ∃ sK ownK, i = .int .i64 k ∧ k ≤ n ∧ TIn wr ownK L sh room sK ∧ Fol w own wr ownK ∧ TabOff wr ownK ∧ On sh room B T (ahead (D.drop k) sK) ∧ sK.wn = a0 ∧ sK.now = N ∧ (rowW TI 2 (.slice (some ⟨g, 0, none⟩) n cp) n (D.flatMap (fun a => KR a.2))).P wr oR ∧ (∀ k, oR k → ¬ ownK k) ∧ k + meas (ahead (D.drop k) sK).H ≤ meas sM.H) (fun i _ => n - (intOf i).toNat)
        case atStart => exact ⟨0, _, own3, rfl, Nat.zero_le _, H4.out, F4.out, HT4.out, HQ3.out, rfl, HNW.out, HR4.out, HD4.out, by have := HQ6.out; simp only [List.drop_zero]; omega⟩
        case round =>
          obtain ⟨k, sK, ownK, rfl, hk, hTI, hFo, hTo, hOn, hWn, hNo, hRo, hDi, hMe⟩ := hrel
          obtain ⟨wB, rfl⟩ : ∃ x, x = wr := ⟨_, rfl⟩
          by_cases hlt : k < n
          · have hI : (k : Int) < n := by omega
            obtain ⟨e, he⟩ : ∃ e, D[k]? = some e := ⟨D[k]'(by rw [HN.out]; exact hlt), by simp⟩
            obtain ⟨a1, v, b⟩ := e
            have ha1 : a1 = a0 := HQ4.out _ (List.mem_of_getElem? he)
            subst ha1
            have hdr : D.drop k = (a1, (v, b)) :: D.drop (k + 1) := by
              have hlt' : k < D.length := by rw [HN.out]; exact hlt
              rw [List.drop_eq_getElem_cons hlt']
              rw [List.getElem?_eq_getElem hlt'] at he
              rw [Option.some.inj he]
            rw [hdr] at hOn hMe
            obtain ⟨p1, p2, p3, p4, p5, p6, p7, p8, p9, p10, p11, p12, p13⟩ := hOn.step hs (fun a ha => HQ4.out a (List.mem_of_mem_drop ha)) hWn (by rw [hNo]; exact hle2) HB2.out
            obtain ⟨r1, _⟩ := rowW_cell hRo (kr_at he).1
            obtain ⟨r2, _⟩ := rowW_cell hRo (kr_at he).2
            have r2' : wB.cell? ⟨g, (k * 2 + 1), none⟩ = some (.int .u64 (b : Nat)) := r2
            have hno : ¬ ownK wB.heap.size := fun h9 => absurd (hTI.lt h9) (Nat.lt_irrefl _)
            obtain ⟨h7, hB7⟩ := hTI.box #[.int .i64 (v : Nat), .int .u64 (b : Nat)] TR
            obtain ⟨w7, hw7⟩ : ∃ w7, w7 = wB.alloc (.cells #[.int .i64 (v : Nat), .int .u64 (b : Nat)] TR) := ⟨_, rfl⟩
            have u7 : Upd Nowhere wB w7 := by rw [hw7]; exact (Upd.refl _ _).alloc _
            rw [← hw7] at h7 hB7
            have H7 := Lib.hid h7
            have HB7 := Lib.hid hB7
            have HNO := Lib.hid hno
            have F7 := Lib.hid (hFo.old u7)
            have HT7 := Lib.hid (hTo.fol ((Fol.refl _ _).old u7))
            have HR7 := Lib.hid ((rowW TI 2 (.slice (some ⟨g, 0, none⟩) n cp) n (D.flatMap (fun a => KR a.2))).kp hRo u7 (fun _ _ h => h))
            have HD7 := Lib.hid hDi
            have P4 := Lib.hid p4
            have P7 := Lib.hid p7
            have P10 := Lib.hid p10
            have P11 := Lib.hid p11
            have P12 := Lib.hid (p12.trans hNo)
            have P13 : Hid (k + 1 + meas (ahead (D.drop (k + 1)) (come sh 32 sK a1 (sh.par v) (chi v) b)).H ≤ meas sM.H) := Lib.hid (by omega)
            have hvn : (v : Int) < (sh.n : Int) := by omega
            clear hTI hFo hTo hOn hWn hNo hRo hDi hMe H4 F4 HT4 HR4 HD4 HQ3 HQ6 h7 hB7 hno u7 p4 p7 p10 p11 p12 p13 he hdr
            obtain ⟨BU, hBU⟩ : ∃ BU, wB.heap.size = BU := ⟨_, rfl⟩
            rw [hBU] at HB7 HNO
            go_upto_region 7 with fail
            generalize wB.alloc (.cells #[.int .i64 (v : Nat), .int .u64 (b : Nat)] TR) = wz at hw7 ⊢
            subst hw7
            try simp only [hBU]
            have HCO := fun (u : World) (o : Nat → Prop) (hu : TIn u o L sh room sK) => Lib.hid (come_ok hs 32 hu P7.out (i := sh.par v) p3 p2 P4.out p5 p6 v (.inr p1) 0 0 0 (by omega) a1 p9 b p8)
            have HD8 := Lib.hid (H7.out.old ((Upd.refl Nowhere w7).drew))
            have F8 := Lib.hid ((Fol.refl w7 ownK).old ((Upd.refl Nowhere w7).drew))
            have hS0 := fast3 p1 HB7.out HNO.out HD8.out F8.out
            clear r1 r2 r2' hBU
            go_region_held3 (fun w' => w'.cell? ⟨L.b, 0, none⟩ = some (.slice (some ⟨L.g, 0, none⟩) sh.n L.cap) ∧ w'.cell? ⟨L.g, v * 9, none⟩ = some (.int .i64 (sh.par v : Nat)) ∧ w'.cell? ⟨BU, 0, none⟩ = some (.int .i64 (v : Nat)) ∧ w'.cell? ⟨BU, 1, none⟩ = some (.int .u64 (b : Nat))) (first | exact hS0 | assumption) (first
              | (go_at_call 34; refine (HCO _ _ HD8.out).out.mono ?_; rintro e w9 ⟨rfl, own9, h9, f9⟩; have g9 := F8.out.trans f9; have hS9 := fast3 p1 HB7.out HNO.out h9 g9))
            all_goals
              have H9 := Lib.hid h9
              have F9 := Lib.hid (F7.out.trans g9)
              have HT9 := Lib.hid (HT7.out.fol g9)
              have HD9 : Hid (∀ k, oR k → ¬ own9 k) := Lib.hid (fun q hq h8 => (g9.at_ q h8).elim (HD7.out q hq) (fun h7 => absurd ((rowW TI 2 (.slice (some ⟨g, 0, none⟩) n cp) n (D.flatMap (fun a => KR a.2))).lt HR7.out hq) (Nat.not_lt.2 h7)))
              have HR9 := Lib.hid ((rowW TI 2 (.slice (some ⟨g, 0, none⟩) n cp) n (D.flatMap (fun a => KR a.2))).kp HR7.out g9.upd HD7.out)
              clear h9 g9 f9 hS0 hS9 HD8 F8 HCO H7 F7 HT7 HR7 HD7
              go_wp2_with fail
              go_roundw
              case rel => exact ⟨k + 1, _, own9, by first | rfl | go_num, by omega, H9.out, F9.out, HT9.out, P10.out, P11.out, P12.out, HR9.out, HD9.out, P13.out⟩
              case measure => simp [intOf]; omega
          · obtain rfl : k = n := by omega
            have hI : ¬ (k : Int) < k := by omega
            rw [List.drop_eq_nil_of_le (by rw [HN.out]; exact Nat.le_refl _)] at hOn hMe
            have H5 := Lib.hid hTI
            have F5 := Lib.hid hFo
            have HT5 := Lib.hid hTo
            have HO5 : Hid (On sh room B T sK) := Lib.hid hOn
            have HM5 : Hid (k + meas sK.H ≤ meas sM.H) := Lib.hid hMe
            have HN5 := Lib.hid hNo
            clear hTI hFo hTo hOn hWn hNo hRo hDi hMe H4 F4 HT4 HR4 HD4 HQ3 HQ6
            obtain ⟨-, t1, -⟩ := H5.out.fields
            have HNX := Lib.hid (next_ok H5.out HT5.out)
            go_wp2_with fail
            refine HNX.out.mono ?_
            rintro e w6 ⟨rfl, u6⟩
            have H6 := Lib.hid (H5.out.old u6)
            have F6 := Lib.hid (F5.out.old u6)
            have HT6 := Lib.hid (HT5.out.fol ((Fol.refl _ _).old u6))
            clear t1 HNX u6 H5 F5 HT5
            go_wp2_with fail
            go_roundg (meas sK.H + 1)
            case rel => exact ⟨sK, ownK, Nat.lt_succ_self _, rfl, rfl, H6.out, F6.out, HT6.out, HO5.out, HN5.out⟩
            case measure => have h1 := HM5.out; have h2 := HGK.out; omega
      · have d1 : decide ((a0 : Int) ≤ (N : Int)) = false := decide_eq_false (by omega)
        have d2 : decide (a0 ≤ N) = false := decide_eq_false hle
        have hstl : Still sM := still_of HON.out.bal.hr hH (by rw [HNW.out]; omega)
        have HSL := Lib.hid hstl
        clear hle hH hstl
        go_wp2_with fail
        go_end0
        have hT0 := HON.out.done HSL.out
        exact ⟨rfl, own2, hT0 ▸ H3.out, F3.out⟩
end
end Go.Proofs.YtllfloapiliheaaDoor.Tree
namespace Go.Proofs.YtllfloapiliheaaDoor.Tree
open Go.RowKit Go.Proofs BigFrame
set_option maxHeartbeats 4000000
set_option maxRecDepth 1000000
abbrev TPk : TypeId := 38
abbrev zp : Array Value := #[.int .u32 0, .int .u32 0, .int .u64 0]
theorem len_nil (w : World) : Calls Tryd.prog 18 #[.pointer none] w fun e w' => e = .returned (.int .i64 0) ∧ w = w' := by
  go_enter Tryd.func18, Tryd.ntmps18
  go_wp2_with fail
  go_ret
  exact ⟨rfl, rfl⟩
theorem held_nil (w : World) : Calls Tryd.prog 20 #[.pointer none] w fun e w' => e = .returned (.int .i64 0) ∧ w = w' := by
  go_enter Tryd.func20, Tryd.ntmps20
  go_wp2_with fail
  go_ret
  exact ⟨rfl, rfl⟩
theorem now_nil (w : World) : Calls Tryd.prog 16 #[.pointer none] w fun e w' => e = .returned (.int .u64 0) ∧ w = w' := by
  go_enter Tryd.func16, Tryd.ntmps16
  go_wp2_with fail
  go_ret
  exact ⟨rfl, rfl⟩
theorem waits_nil (i : Int) (w : World) : Calls Tryd.prog 25 #[.pointer none, .int .i64 i] w fun e w' => e = .returned (.int .i64 0) ∧ ∃ k, w' = w.drewN k := by
  go_enter Tryd.func25, Tryd.ntmps25
  go_wp2_with fail
  first
    | (go_ret; exact ⟨rfl, 0, rfl⟩)
    | (go_quiet (fail)
       go_wp2_with fail
       go_ret
       exact ⟨rfl, _, rfl⟩)
theorem push_nil (now : Nat) (leaf : Int) (a b c : Nat) (w : World) : Calls Tryd.prog 14 #[.pointer none, .int .u64 now, .int .i64 leaf, .agg #[.int .u32 a, .int .u32 b, .int .u64 c]] w fun e w' => e = .returned (.int .i64 10) ∧ Upd Nowhere w w' := by
  go_enter Tryd.func14, Tryd.ntmps14
  go_wp2_with fail
  first
    | (go_ret; exact ⟨rfl, (Upd.refl _ _).alloc _⟩)
    | (go_quiet (fail)
       go_wp2_with fail
       go_ret
       exact ⟨rfl, ((Upd.refl _ _).alloc _).drewN _⟩)
abbrev TPt : TypeId := 25
theorem pop_nil (now : Nat) (w : World) : Calls Tryd.prog 13 #[.pointer none, .int .u64 now] w fun e w' => e = .returned (.tuple #[.agg zp, .int .i64 10]) ∧ Upd Nowhere w w' := by
  have hU2 : Upd Nowhere w ((w.alloc (.cells #[.pointer none] TPt)).alloc (.cells zp TPk)) := ((Upd.refl _ _).alloc _).alloc _
  have hT2 : Blk ((w.alloc (.cells #[.pointer none] TPt)).alloc (.cells zp TPk)) w.heap.size #[.pointer none] TPt := (Blk.new _ _ _).alloc _
  have hB2 : Blk ((w.alloc (.cells #[.pointer none] TPt)).alloc (.cells zp TPk)) (w.heap.size + 1) zp TPk := Blk.new2 _ _ _ _
  go_enter Tryd.func13, Tryd.ntmps13
  go_upto_region 1 with fail
  generalize (w.alloc (.cells #[.pointer none] TPt)).alloc (.cells zp TPk) = w2 at *
  obtain ⟨c0, c1, c2, z0, z1, z2⟩ := cells3 hB2
  obtain ⟨t0, _⟩ := cells1 hT2
  go_wp2_with fail
  exact bodyPost_ret (v := .tuple #[.agg zp, .int .i64 10]) (by simp [results, Tryd.results13, go_sem, c0, c1, c2]) rfl ⟨rfl, (by repeat (first | with_reducible exact hU2 | with_reducible refine Upd.drewN ?_ _ | with_reducible refine Upd.drew ?_ | with_reducible refine Upd.setNew ?_ (Nat.le_succ _) _))⟩
end Go.Proofs.YtllfloapiliheaaDoor.Tree
namespace Go.Proofs.YtllfloapiliheaaDoor.Tree
open Go.RowKit Go.Proofs BigFrame
open HeapE (El VE)
open WheelR (Ri)
open Cal (ins)
set_option maxHeartbeats 4000000
set_option maxRecDepth 1000000
abbrev pcell (a b c : Nat) : Array Value := #[.int .u32 a, .int .u32 b, .int .u64 c]
section
variable {w w' w1 : World} {own own' own1 : Nat → Prop} {L : Lay} {sh : Sh} {room : Nat} {s : TS}
theorem Good.lens (h : Good sh room s) (hs : sh.Ok) (hm : s.m < room) : (∀ v, v < sh.n → (s.q v).length < room) ∧ s.H.length < room := by
  have ht := h.tot
  have h1 : Tot { s with m := s.m + 1 } 1 := by unfold Tot at ht ⊢; show s.m + 1 = (s.q 0).length + s.H.length + 1; omega
  have h2 := (m_bal h.bal (s.m + 1)).room hs h1 (room := room) (i := sh.n) hm (.inl rfl)
  unfold Tot at ht
  exact ⟨fun v hv => h2 v (by omega) hv, by omega⟩
/-- What is held fast while a packet comes. -/
theorem fast4 {B a b c : Nat} (hB : Blk w B (pcell a b c) TPk) (ho : ¬ own B) (h1 : TIn w1 own1 L sh room s) (hF : Fol w own w1 own1) :
    w1.cell? ⟨B, 0, none⟩ = some (.int .u32 a) ∧ w1.cell? ⟨B, 1, none⟩ = some (.int .u32 b) ∧ w1.cell? ⟨B, 2, none⟩ = some (.int .u64 c) ∧ w1.cell? ⟨L.b, 2, none⟩ = some (.int .u64 (s.now : Nat)) := by
  obtain ⟨-, -, t2, -⟩ := h1.fields
  obtain ⟨b0, b1, b2, -⟩ := cells3 (hB.kept hF.upd ho)
  exact ⟨b0, b1, b2, t2⟩
theorem push_ok (hs : sh.Ok) (h : TIn w own L sh room s) (hg : Good sh room s) (hr : room ≤ 4096) (hc : s.c + 10000000 < 18446744073709551615) (hT : TabOff w own) {t : Nat} (ht : t ≤ 18446744073709551615) (leaf : Int) (a b c : Nat) (ha : a < 4294967296) (hb : b < 4294967296) (hcc : c ≤ 18446744073709551615) :
    Calls Tryd.prog 14 #[.pointer (some ⟨L.b, 0, none⟩), .int .u64 (t : Nat), .int .i64 leaf, .agg (pcell a b c)] w fun e w' => e = .returned (.int .i64 ((push sh room s t leaf (a, b, c)).1 : Nat)) ∧
      ∃ own', TIn w' own' L sh room (push sh room s t leaf (a, b, c)).2 ∧ Fol w own w' own' := by
  obtain ⟨R, hR⟩ : ∃ R, push sh room s t leaf (a, b, c) = R := ⟨_, rfl⟩
  rw [hR]
  unfold push at hR
  simp only at hR
  have hgp := pass_good hs hg ht
  have hcp := (pass_bal hs hg.bal ht).2.2.2.2.2.2
  have hme := hg.meas hs hr
  have hP := fun (u : World) (o : Nat → Prop) (hu : TIn u o L sh room s) (hTu : TabOff u o) => Lib.hid (pass_ok hs hu hg hr (by omega) hTu ht)
  obtain ⟨s1, hs1⟩ : ∃ s1, pass sh s t = s1 := ⟨_, rfl⟩
  rw [hs1] at hP hR hgp hcp
  obtain ⟨h1, hB⟩ := h.box (pcell a b c) TPk
  obtain ⟨w0, hw0⟩ : ∃ w0, w0 = w.alloc (.cells (pcell a b c) TPk) := ⟨_, rfl⟩
  have hno : ¬ own w.heap.size := fun h9 => absurd (h.lt h9) (Nat.lt_irrefl _)
  have f0 : Fol w own w0 own := (Fol.refl _ _).old (by rw [hw0]; exact (Upd.refl _ _).alloc _)
  rw [← hw0] at h1 hB
  have hn1 := hs.pos
  have hn2 := hs.le
  obtain ⟨n, hn⟩ : ∃ n, sh.n = n := ⟨_, rfl⟩
  obtain ⟨t0, -⟩ := h1.fields
  obtain ⟨PB, hPB⟩ : ∃ PB, w.heap.size = PB := ⟨_, rfl⟩
  rw [hPB] at hB hno
  have HPA := Lib.hid (hP _ _ h1 (hT.fol f0)).out
  have F0 := Lib.hid f0
  have HT0 := Lib.hid hT
  have HB := Lib.hid hB
  have HNO := Lib.hid hno
  have HG := Lib.hid hgp
  have HC : Hid (s1.c + 5000100 < 18446744073709551615) := Lib.hid (by omega)
  have HRR := Lib.hid hR
  have hz : ((n : Int) == 0) = false := by simp; omega
  rw [hn] at t0 hn1 hn2
  have HN := Lib.hid hn
  clear h hg hc hT h1 hB hno f0 hgp hcp hme hP hs1 hR hn
  go_enter Tryd.func14, Tryd.ntmps14
  go_upto_region 1 with fail
  generalize w.alloc (.cells (pcell a b c) TPk) = wz at hw0 ⊢
  subst hw0
  try simp only [hPB]
  go_wp2_with fail
  refine HPA.out.mono ?_
  rintro e w1 ⟨rfl, own1, h1, f1⟩
  have F1 := Lib.hid (F0.out.trans f1)
  obtain ⟨t0, t1, t2, t3, t4, -⟩ := h1.fields
  obtain ⟨b0, b1, b2, -⟩ := cells3 (HB.out.kept f1.upd HNO.out)
  have H1 := Lib.hid h1
  have HB1 := Lib.hid (HB.out.kept f1.upd HNO.out)
  have hno1 : ¬ own1 PB := fun h9 => (f1.at_ _ h9).elim HNO.out (fun h8 => absurd HB.out.lt (Nat.not_lt.2 h8))
  have HNO1 := Lib.hid hno1
  rw [HN.out] at t0
  clear h1 f1 hno1 HPA F0 HB HNO
  by_cases hl : leaf < 0 ∨ (n : Int) ≤ leaf
  · have hR := HRR.out
    rw [if_pos (by rw [HN.out]; exact hl)] at hR
    subst hR
    rcases Classical.em (leaf < 0) with hl0 | hl0
    · have d1 : decide (leaf < 0) = true := decide_eq_true hl0
      clear HRR
      go_wp2_with fail
      go_ret
      exact ⟨rfl, own1, H1.out, F1.out⟩
    · have d1 : decide (leaf < 0) = false := decide_eq_false hl0
      have d2 : decide (leaf ≥ (n : Int)) = true := decide_eq_true (by omega)
      have d3 : decide ((n : Int) ≤ leaf) = true := decide_eq_true (by omega)
      clear HRR
      go_wp2_with fail
      go_ret
      exact ⟨rfl, own1, H1.out, F1.out⟩
  · obtain ⟨i, rfl⟩ : ∃ i : Nat, leaf = i := ⟨leaf.toNat, by omega⟩
    have hi : i < n := by omega
    have hi2 : i < sh.n := by rw [HN.out]; exact hi
    have hR := HRR.out
    rw [if_neg (by rw [HN.out]; exact hl)] at hR
    rw [Int.toNat_natCast] at hR
    have d1 : decide ((i : Int) < 0) = false := decide_eq_false (by omega)
    have d2 : decide ((i : Int) ≥ (n : Int)) = false := decide_eq_false (by omega)
    have d3 : decide ((n : Int) ≤ (i : Int)) = false := decide_eq_false (by omega)
    have d4 : decide (n ≤ i) = false := decide_eq_false (by omega)
    have hI : (i : Int) < n := by omega
    obtain ⟨n0, n1, n2, n3, n4, -⟩ := H1.out.node hi2
    obtain ⟨lf, hlf⟩ : ∃ lf, sh.leaf i = lf := ⟨_, rfl⟩
    rw [hlf] at hR n4
    have HLF := Lib.hid hlf
    clear hl hlf HRR
    cases lf with
    | false =>
      rw [if_pos rfl] at hR
      subst hR
      go_wp2_with fail
      go_ret
      exact ⟨rfl, own1, H1.out, F1.out⟩
    | true =>
      rw [if_neg (by simp)] at hR
      by_cases hcl : c = 0 ∨ 65535 < c
      · rw [if_pos hcl] at hR
        subst hR
        by_cases hc0 : c = 0
        · have q0 : ((c : Int) == 0) = true := by simp; omega
          clear hcl hc0
          go_wp2_with fail
          go_ret
          exact ⟨rfl, own1, H1.out, F1.out⟩
        · have q0 : ((c : Int) == 0) = false := by simp; omega
          have q1 : decide ((c : Int) > 65535) = true := decide_eq_true (by omega)
          have q2 : decide (65535 < c) = true := decide_eq_true (by omega)
          clear hcl hc0
          go_wp2_with fail
          go_ret
          exact ⟨rfl, own1, H1.out, F1.out⟩
      · rw [if_neg hcl] at hR
        have q0 : ((c : Int) == 0) = false := by simp; omega
        have q1 : decide ((c : Int) > 65535) = false := decide_eq_false (by omega)
        have q2 : decide (65535 < c) = false := decide_eq_false (by omega)
        have hc1 : c ≤ 65535 := by omega
        clear hcl
        obtain ⟨m, hm⟩ : ∃ m, s1.m = m := ⟨_, rfl⟩
        rw [hm] at t3
        by_cases hful : room ≤ m
        · rw [if_pos (by rw [hm]; exact hful)] at hR
          subst hR
          have r1 : decide ((m : Int) ≥ (room : Int)) = true := decide_eq_true (by omega)
          have r2 : decide (room ≤ m) = true := decide_eq_true hful
          clear hm hful
          go_upto_region 10 with fail
          go_quiet (fail)
          go_wp2_with fail
          go_ret
          exact ⟨rfl, own1, H1.out.old ((Upd.refl _ _).drewN _), F1.out.drewN _⟩
        · rw [if_neg (by rw [hm]; exact hful)] at hR
          have r1 : decide ((m : Int) ≥ (room : Int)) = false := decide_eq_false (by omega)
          have r2 : decide (room ≤ m) = false := decide_eq_false hful
          have HMM := Lib.hid hm
          have HRR := Lib.hid hR
          have hml : m < room := by omega
          clear hm hful hR
          obtain ⟨m1, hm1⟩ : ∃ m1, m + 1 = m1 := ⟨_, rfl⟩
          have hm2 : (m : Int) + 1 = (m1 : Int) := by omega
          have hm3 : m1 ≤ 4096 := by omega
          have HM1 := Lib.hid hm1
          clear hm1
          go_upto_region 10 with fail
          go_quiet (fail)
          have H2 := Lib.hid (H1.out.old ((Upd.refl Nowhere w1).drewN nq))
          have F2 := Lib.hid (F1.out.drewN nq)
          have HB2 := Lib.hid (HB1.out.drewN nq)
          clear t0 t1 t2 t3 t4 b0 b1 b2 n0 n1 n2 n3 n4 H1 F1 HB1
          generalize w1.drewN nq = w2 at *
          obtain ⟨t0, t1, t2, t3, t4, z⟩ := H2.out.fields
          rw [HMM.out] at t3
          have z3 := z 3
          obtain ⟨own3, h3, f3⟩ := H2.out.put 3 (.int .i64 (m1 : Nat)) { s1 with m := s1.m + 1 } (by simp [tcell, HMM.out, HM1.out]) (fun _ => rfl) rfl rfl
          have H3 := Lib.hid h3
          have F3 := Lib.hid (F2.out.trans f3)
          have HB3 := Lib.hid (HB2.out.kept f3.upd HNO1.out)
          have hno3 : ¬ own3 PB := fun h9 => (f3.at_ _ h9).elim HNO1.out (fun h8 => absurd HB2.out.lt (Nat.not_lt.2 h8))
          have HNO3 := Lib.hid hno3
          clear h3 f3 hno3 z
          go_upto_region 13 with fail
          generalize w2.setCell ⟨L.b, 3, none⟩ (.int .i64 (m1 : Nat)) = w3 at *
          clear t0 t1 t2 t3 t4 z3 H2 F2 HB2
          have hlens := HG.out.lens hs (by rw [HMM.out]; exact hml)
          obtain ⟨g1, g2, g3, g4⟩ := came_good hs HG.out hi2 HLF.out (e := ((0 : Int), a, b, c)) ⟨rfl, ha, hb, hc1⟩ (by rw [HMM.out]; exact hml)
          have hnw := HG.out.bal.now.2
          have hCO := fun (u : World) (o : Nat → Prop) (hu : TIn u o L sh room { s1 with m := s1.m + 1 }) => Lib.hid (come_ok hs 32 hu ⟨g1.fit.vi, g1.fit.tg, g1.fit.fr⟩ (i := i) (by omega) hi2 (fun v hv => hlens.1 v (by omega)) hlens.2 (show s1.c + 32 + 2 < _ by have := HC.out; omega) 0 (.inl HLF.out) a b c ha s1.now hnw c hcc)
          obtain ⟨s3, hs3⟩ : ∃ s3, come sh 32 { s1 with m := s1.m + 1 } s1.now i ((0 : Int), a, b, c) c = s3 := ⟨_, rfl⟩
          have hs3' : come sh 32 { s1 with m := s1.m + 1 } s1.now i (((0 : Nat) : Int), a, b, c) c = s3 := hs3
          change Good sh room (come sh 32 { s1 with m := s1.m + 1 } s1.now i ((0 : Int), a, b, c) c) at g3
          change Came _ (come sh 32 { s1 with m := s1.m + 1 } s1.now i ((0 : Int), a, b, c) c) i at g4
          have hR3 := HRR.out
          change (0, pass sh (come sh 32 { s1 with m := s1.m + 1 } s1.now i ((0 : Int), a, b, c) c) s1.now) = R at hR3
          rw [hs3] at g3 g4 hR3
          rw [hs3'] at hCO
          have HG3 := Lib.hid g3
          have HN3 : Hid (s3.now = s1.now) := Lib.hid g4.now
          have HC3 : Hid (s3.c + 5000000 < 18446744073709551615) := Lib.hid (by have h1 := g4.c1; have h2 := HC.out; change s3.c ≤ s1.c + i + 2 at h1; omega)
          have HR3 := Lib.hid hR3
          have HNW := Lib.hid hnw
          have HD := Lib.hid (H3.out.old ((Upd.refl Nowhere w3).drew))
          have F4 := Lib.hid ((Fol.refl w3 own3).old ((Upd.refl Nowhere w3).drew))
          have hS0 := fast4 HB3.out HNO3.out HD.out F4.out
          change _ ∧ _ ∧ _ ∧ w3.drew.cell? ⟨L.b, 2, none⟩ = some (.int .u64 (s1.now : Nat)) at hS0
          clear hlens g1 g2 g3 g4 hs3 hs3' hR3 hnw HRR
          have hvn : (i : Int) < (sh.n : Int) := by omega
          go_region_held3 (fun w' => w'.cell? ⟨PB, 0, none⟩ = some (.int .u32 a) ∧ w'.cell? ⟨PB, 1, none⟩ = some (.int .u32 b) ∧ w'.cell? ⟨PB, 2, none⟩ = some (.int .u64 c) ∧ w'.cell? ⟨L.b, 2, none⟩ = some (.int .u64 (s1.now : Nat))) (first | exact hS0 | assumption) (first
            | (go_at_call 34; refine (hCO _ _ HD.out).out.mono ?_; rintro e w5 ⟨rfl, own5, h5, f5⟩; have g5 := F4.out.trans f5; have hS5 : w5.cell? ⟨PB, 0, none⟩ = some (.int .u32 a) ∧ w5.cell? ⟨PB, 1, none⟩ = some (.int .u32 b) ∧ w5.cell? ⟨PB, 2, none⟩ = some (.int .u64 c) ∧ w5.cell? ⟨L.b, 2, none⟩ = some (.int .u64 (s1.now : Nat)) := HN3.out ▸ fast4 HB3.out HNO3.out h5 g5))
          all_goals
            have H5 := Lib.hid h5
            have F5 := Lib.hid (F3.out.trans g5)
            obtain ⟨-, -, -, t2⟩ := hS5
            clear h5 f5 g5 hS0 HD F4 hCO H3 F3
            have HPA := Lib.hid (pass_ok hs H5.out HG3.out hr HC3.out (HT0.out.fol F5.out) HNW.out)
            go_wp2_with fail
            refine HPA.out.mono ?_
            rintro e w6 ⟨rfl, own6, h6, f6⟩
            go_wp2_with fail
            go_ret
            have hR := HR3.out
            subst hR
            exact ⟨rfl, own6, h6, F5.out.trans f6⟩
end
end Go.Proofs.YtllfloapiliheaaDoor.Tree
namespace Go.Proofs.YtllfloapiliheaaDoor.Tree
open Go.RowKit Go.Proofs BigFrame
open HeapE (El VE Hq q_pop)
open WheelR (Ri)
open Cal (ins)
set_option maxHeartbeats 4000000
set_option maxRecDepth 1000000
abbrev TF : TypeId := 86
section
variable {w w' w1 : World} {own own' own1 : Nat → Prop} {L : Lay} {sh : Sh} {room : Nat} {s : TS}
theorem take_ok (h : TIn w own L sh room s) {x r : Nat} {e : El} {t : List (Nat × El)} (hx : x < sh.n) (hq : s.q x = (r, e) :: t) :
    Calls Tryd.prog 33 #[.pointer (some ⟨L.bs x, 0, none⟩)] w fun e' w' => e' = .returned (.tuple #[.int .u64 r, VE e, .bool true]) ∧
      ∃ own', TIn w' own' L sh room { s with q := up s.q x t } ∧ Fol w own w' own' := by
  obtain ⟨o, h1, h2, h3⟩ := h.heap hx
  rw [hq] at h1
  refine (q_pop h1).mono ?_
  rintro e' w' ⟨rfl, ⟨own', g1, g2⟩, g3⟩
  obtain ⟨o2, k1, k2⟩ := h3 w' own' s.c t (Nat.le_refl _) g1 ⟨g2, g3⟩
  exact ⟨rfl, o2, k1, k2⟩
/-- A cell off the tree is written. -/
theorem TIn.aside (h : TIn w own L sh room s) {R : Nat} (hR : ¬ own R) (j : Nat) (v : Value) : TIn (w.setCell ⟨R, j, none⟩ v) own L sh room s :=
  h.kept (S := fun k => k = R) (Upd.setCell (S := fun k => k = R) (Upd.refl _ _) (fun _ => rfl) v) (fun _ hk e => hR (e ▸ hk))
theorem fol3 {w0 : World} {o0 : Nat → Prop} (h : Fol w0 o0 w own) {R : Nat} (hR : w0.heap.size ≤ R) (a b c : Value) : Fol w0 o0 (((w.setCell ⟨R, 0, none⟩ a).setCell ⟨R, 1, none⟩ b).setCell ⟨R, 2, none⟩ c) own :=
  ⟨h.at_, ((h.upd.setNew (a := ⟨R, 0, none⟩) hR a).setNew (a := ⟨R, 1, none⟩) hR b).setNew (a := ⟨R, 2, none⟩) hR c⟩
theorem not_own {w0 : World} {o0 : Nat → Prop} (h : Fol w0 o0 w own) {B : Nat} (hB : ¬ o0 B) (hlt : B < w0.heap.size) : ¬ own B := fun h9 => (h.at_ _ h9).elim hB (fun h8 => absurd hlt (Nat.not_lt.2 h8))
abbrev VP (p : Nat × Nat × Nat) : Value := .agg #[.int .u32 p.1, .int .u32 p.2.1, .int .u64 p.2.2]
theorem down_ok (hs : sh.Ok) {A F : Nat} : ∀ (f : Nat) {w : World} {own : Nat → Prop} {s : TS} {x : Nat}, TIn w own L sh room s → Bal sh s x → x < sh.n → s.q x ≠ [] → sh.n ≤ f + x →
    Blk w A #[.pointer (some ⟨L.b, 0, none⟩)] TPt → Blk w F #[.func (.func 32) #[] #[.pointer (some ⟨A, 0, none⟩), .pointer (some ⟨F, 0, none⟩)]] TF → ¬ own A → ¬ own F →
    Calls Tryd.prog 32 #[.int .i64 x, .pointer (some ⟨A, 0, none⟩), .pointer (some ⟨F, 0, none⟩)] w fun e w' => e = .returned (VP (down sh f s x).1.2) ∧
      ∃ own', TIn w' own' L sh room (down sh f s x).2 ∧ Fol w own w' own'
  | 0, _, _, _, _, _, _, hx, _, hf, _, _, _, _ => absurd hx (by omega)
  | f + 1, w, own, s, x, h, hb, hx, hq, hf, hA, hF, hnA, hnF => by
    have IH := fun {w : World} {own : Nat → Prop} {s : TS} {x : Nat} (h1 : TIn w own L sh room s) => Lib.hid (down_ok hs (A := A) (F := F) f (x := x) h1)
    obtain ⟨a, t, hqx⟩ : ∃ a t, s.q x = a :: t := by
      cases he : s.q x with
      | nil => exact absurd he hq
      | cons a t => exact ⟨a, t, rfl⟩
    obtain ⟨r, e0⟩ := a
    obtain ⟨hk1, hk2⟩ := taken hs hb hx hqx
    have hTK := fun (u : World) (o : Nat → Prop) (hu : TIn u o L sh room s) => Lib.hid (take_ok hu hx hqx)
    obtain ⟨w0, hw0⟩ : ∃ w0, w0 = w.alloc (.cells zp TPk) := ⟨_, rfl⟩
    obtain ⟨h1, hR⟩ := h.box zp TPk
    have hno : ¬ own w.heap.size := fun h9 => absurd (h.lt h9) (Nat.lt_irrefl _)
    have u0 : Upd Nowhere w w0 := by rw [hw0]; exact (Upd.refl _ _).alloc _
    rw [← hw0] at h1 hR
    have hA1 := hA.kept u0 id
    have hF1 := hF.kept u0 id
    obtain ⟨R, hRR⟩ : ∃ R, w.heap.size = R := ⟨_, rfl⟩
    have hRle : w.heap.size ≤ R := by omega
    rw [hRR] at hR hno
    obtain ⟨t0, -⟩ := h1.fields
    obtain ⟨n0, n1, n2, n3, n4, n5, n6, -⟩ := h1.node hx
    obtain ⟨a0, a1⟩ := cells1 hA1
    have hI : (x : Int) < (sh.n : Int) := by omega
    have HTK := Lib.hid (hTK _ _ h1).out
    have F0 : Hid (Fol w own w0 own) := Lib.hid ((Fol.refl _ _).old u0)
    have HR := Lib.hid hR
    have HRL := Lib.hid hRle
    have HNO := Lib.hid hno
    have HA := Lib.hid hA1
    have HF := Lib.hid hF1
    have HNA := Lib.hid hnA
    have HNF := Lib.hid hnF
    have HQ := Lib.hid hqx
    have HK1 := Lib.hid hk1
    have HK2 := Lib.hid hk2
    have hdn : down sh (f + 1) s x = if sh.leaf x = true then (e0, { s with q := up s.q x t }) else down sh f (stepped sh s x r t) e0.1.toNat := by
      simp only [down, hqx, stepped]
    have HDN := Lib.hid hdn
    clear h hb hq hA hF hnA hnF hTK hR hno u0 hA1 hF1 hRle h1 hqx hk1 hk2 hdn
    go_enter Tryd.func32, Tryd.ntmps32
    go_upto_region 1 with fail
    generalize w.alloc (.cells zp TPk) = wz at hw0 ⊢
    subst hw0
    try simp only [hRR]
    go_wp2_with fail
    refine HTK.out.mono ?_
    rintro e w1 ⟨rfl, own1, h1, f1⟩
    have F1 := Lib.hid (F0.out.trans f1)
    have HNO1 := Lib.hid (not_own f1 HNO.out HR.out.lt)
    have HNA1 := Lib.hid (not_own f1 HNA.out HA.out.lt)
    have HNF1 := Lib.hid (not_own f1 HNF.out HF.out.lt)
    have HR1 := Lib.hid (HR.out.kept f1.upd HNO.out)
    have HA1 := Lib.hid (HA.out.kept f1.upd HNA.out)
    have HF1 := Lib.hid (HF.out.kept f1.upd HNF.out)
    obtain ⟨ec, ea, eb, el⟩ := e0
    obtain ⟨h2, hE⟩ := h1.box (ecell ec ea eb el) TE
    obtain ⟨w2, hw2⟩ : ∃ w2, w2 = w1.alloc (.cells (ecell ec ea eb el) TE) := ⟨_, rfl⟩
    have u2 : Upd Nowhere w1 w2 := by rw [hw2]; exact (Upd.refl _ _).alloc _
    rw [← hw2] at h2 hE
    have F2 := Lib.hid (F1.out.old u2)
    have HR2 := Lib.hid (HR1.out.kept u2 id)
    have HA2 := Lib.hid (HA1.out.kept u2 id)
    have HF2 := Lib.hid (HF1.out.kept u2 id)
    have H2 := Lib.hid h2
    have HE2 := Lib.hid hE
    have HNE2 : Hid (¬ own1 w1.heap.size) := Lib.hid (fun h9 => absurd (h1.lt h9) (Nat.lt_irrefl _))
    obtain ⟨EB, hEB⟩ : ∃ EB, w1.heap.size = EB := ⟨_, rfl⟩
    clear t0 n0 n1 n2 n3 n4 n5 n6 a0 a1 HTK h1 f1 F0 HNO HNA HNF HR HA HF F1 HR1 HA1 HF1 h2 hE u2
    go_upto_region 3 with fail
    generalize w1.alloc (.cells (ecell ec ea eb el) TE) = wz at hw2 ⊢
    subst hw2
    try simp only [hEB]
    rw [hEB] at HE2 HNE2
    obtain ⟨lf, hlf⟩ : ∃ lf, sh.leaf x = lf := ⟨_, rfl⟩
    obtain ⟨kd, hkd⟩ : ∃ kd, sh.kind x = kd := ⟨_, rfl⟩
    obtain ⟨t0, -⟩ := H2.out.fields
    obtain ⟨n0, n1, n2, n3, n4, n5, n6, -⟩ := H2.out.node hx
    obtain ⟨b0, b1, b2, b3, -⟩ := cells4 HE2.out
    obtain ⟨r0, r1, r2, y0, y1, y2⟩ := cells3 HR2.out
    obtain ⟨a0, a1⟩ := cells1 HA2.out
    obtain ⟨f0, f1⟩ := cells1 HF2.out
    rw [hlf] at n4
    rw [hkd] at n1
    have HLF := Lib.hid hlf
    have HKD := Lib.hid hkd
    have hdn := HDN.out
    rw [hlf] at hdn
    clear hlf hkd HDN
    cases lf with
    | true =>
      rw [if_pos rfl] at hdn
      have HDN := Lib.hid hdn
      clear hdn
      go_wp2_with fail
      have hW := (((H2.out.aside HNO1.out 0 (.int .u32 ea)).aside HNO1.out 1 (.int .u32 eb)).aside HNO1.out 2 (.int .u64 el))
      have hG := fol3 F2.out HRL.out (.int .u32 ea) (.int .u32 eb) (.int .u64 el)
      exact bodyPost_ret (v := VP (ea, eb, el)) (by simp [results, Tryd.results32, go_sem, r0, r1, r2]) rfl ⟨by rw [HDN.out], own1, by rw [HDN.out]; exact hW, hG⟩
    | false =>
      rw [if_neg (by simp)] at hdn
      obtain ⟨c, hc1, hc2, hc3, hc4, hc5, hc6, hc7⟩ := HK2.out HLF.out
      cases hc4
      have hdn2 : down sh (f + 1) s x = down sh f (stepped sh s x r t) c := by
        rw [hdn]
        congr 1
      obtain ⟨sg1, sg2⟩ := stepped_gone (sh := sh) (s := s) x r t
      have hb2 : Bal sh (stepped sh s x r t) c := by
        unfold stepped
        split
        · exact vi_bal hc6 x hc7
        · exact hc6
      have hne : (stepped sh s x r t).q c ≠ [] := by rw [sg2, up_off _ (by omega)]; exact hc5
      have HB2 := Lib.hid hb2
      have HNE := Lib.hid hne
      clear hb2 hne hdn sg1 sg2 hc5 hc6
      by_cases h3 : kd = 3
      · subst h3
        have zf := H2.out.frozen hx (show 6 < 9 by omega)
        obtain ⟨own3, h3, g3⟩ := H2.out.set hx (show 6 < 9 by omega) (.int .u64 (r : Nat)) sh (stepped sh s x r t) rfl (fun k => by
          rw [stepped, if_pos HKD.out]
          by_cases e : k = x
          · subst e
            rw [if_pos rfl]
            simp [ncell, up]
          · rw [if_neg e]
            simp [ncell, up, e]) (by simp [tcell, stepped, HKD.out]) (by rw [stepped, if_pos HKD.out]) (by rw [stepped, if_pos HKD.out]; rfl)
        have H3 := Lib.hid h3
        have F3 := Lib.hid (F2.out.trans g3)
        have HNO3 := Lib.hid (not_own g3 HNO1.out HR2.out.lt)
        have HNA3 := Lib.hid (not_own g3 HNA1.out HA2.out.lt)
        have HNF3 := Lib.hid (not_own g3 HNF1.out HF2.out.lt)
        have HR3 := Lib.hid (HR2.out.kept g3.upd HNO1.out)
        have HA3 := Lib.hid (HA2.out.kept g3.upd HNA1.out)
        have HF3 := Lib.hid (HF2.out.kept g3.upd HNF1.out)
        have HE3 := Lib.hid (HE2.out.kept g3.upd (fun h9 => HNE2.out h9))
        clear h3 g3
        go_upto_region 7 with fail
        generalize w2.setCell ⟨L.g, x * 9 + 6, none⟩ (.int .u64 (r : Nat)) = w3 at *
        obtain ⟨b0, b1, b2, b3, -⟩ := cells4 HE3.out
        obtain ⟨a0, a1⟩ := cells1 HA3.out
        obtain ⟨f0, f1⟩ := cells1 HF3.out
        have hih := (IH H3.out).out HB2.out hc1 HNE.out (by omega) HA3.out HF3.out HNA3.out HNF3.out
        obtain ⟨PP, hPP⟩ : ∃ PP, down sh f (stepped sh s x r t) c = PP := ⟨_, rfl⟩
        rw [hPP] at hih hdn2
        have HIH := Lib.hid hih
        have HDN := Lib.hid hdn2
        clear hih hPP hdn2
        go_wp2_with fail
        refine HIH.out.mono ?_
        rintro e w4 ⟨rfl, own4, h4, f4⟩
        have F4 := Lib.hid (F3.out.trans f4)
        have HNO4 := Lib.hid (not_own f4 HNO3.out HR3.out.lt)
        have HR4 := Lib.hid (HR3.out.kept f4.upd HNO3.out)
        have H4 := Lib.hid h4
        clear t0 n0 n1 n2 n3 n4 n5 n6 b0 b1 b2 b3 r0 r1 r2 y0 y1 y2 a0 a1 f0 f1 h4 f4 HIH
        obtain ⟨r0, r1, r2, y0, y1, y2⟩ := cells3 HR4.out
        obtain ⟨⟨pc, pa, pb, pl⟩, PS⟩ := PP
        go_wp2_with fail
        have hW := (((H4.out.aside HNO4.out 0 (.int .u32 pa)).aside HNO4.out 1 (.int .u32 pb)).aside HNO4.out 2 (.int .u64 pl))
        have hG := fol3 F4.out HRL.out (.int .u32 pa) (.int .u32 pb) (.int .u64 pl)
        exact bodyPost_ret (v := VP (pa, pb, pl)) (by simp [results, Tryd.results32, go_sem, r0, r1, r2]) rfl ⟨by rw [HDN.out], own4, by rw [HDN.out]; exact hW, hG⟩
      · have q3 : ((kd : Int) == 3) = false := by simp; omega
        have e3 : stepped sh s x r t = { s with q := up s.q x t } := by rw [stepped, if_neg (by rw [HKD.out]; exact h3)]
        have H3 : Hid (TIn w2 own1 L sh room (stepped sh s x r t)) := Lib.hid (by rw [e3]; exact H2.out)
        have F3 := F2
        have HNO3 := HNO1
        have HNA3 := HNA1
        have HNF3 := HNF1
        have HR3 := HR2
        have HA3 := HA2
        have HF3 := HF2
        clear e3 h3
        have hih := (IH H3.out).out HB2.out hc1 HNE.out (by omega) HA3.out HF3.out HNA3.out HNF3.out
        obtain ⟨PP, hPP⟩ : ∃ PP, down sh f (stepped sh s x r t) c = PP := ⟨_, rfl⟩
        rw [hPP] at hih hdn2
        have HIH := Lib.hid hih
        have HDN := Lib.hid hdn2
        clear hih hPP hdn2
        go_wp2_with fail
        refine HIH.out.mono ?_
        rintro e w4 ⟨rfl, own4, h4, f4⟩
        have F4 := Lib.hid (F3.out.trans f4)
        have HNO4 := Lib.hid (not_own f4 HNO3.out HR3.out.lt)
        have HR4 := Lib.hid (HR3.out.kept f4.upd HNO3.out)
        have H4 := Lib.hid h4
        clear t0 n0 n1 n2 n3 n4 n5 n6 b0 b1 b2 b3 r0 r1 r2 y0 y1 y2 a0 a1 f0 f1 h4 f4 HIH
        obtain ⟨r0, r1, r2, y0, y1, y2⟩ := cells3 HR4.out
        obtain ⟨⟨pc, pa, pb, pl⟩, PS⟩ := PP
        go_wp2_with fail
        have hW := (((H4.out.aside HNO4.out 0 (.int .u32 pa)).aside HNO4.out 1 (.int .u32 pb)).aside HNO4.out 2 (.int .u64 pl))
        have hG := fol3 F4.out HRL.out (.int .u32 pa) (.int .u32 pb) (.int .u64 pl)
        exact bodyPost_ret (v := VP (pa, pb, pl)) (by simp [results, Tryd.results32, go_sem, r0, r1, r2]) rfl ⟨by rw [HDN.out], own4, by rw [HDN.out]; exact hW, hG⟩
end
end Go.Proofs.YtllfloapiliheaaDoor.Tree
namespace Go.Proofs.YtllfloapiliheaaDoor.Tree
open Go.RowKit Go.Proofs BigFrame
open HeapE (El VE Hq q_pop q_len)
open WheelR (Ri w_len)
open Cal (ins)
set_option maxHeartbeats 4000000
set_option maxRecDepth 1000000
section
variable {w w' w1 : World} {own own' own1 : Nat → Prop} {L : Lay} {sh : Sh} {room : Nat} {s : TS}
theorem qlen_ok (h : TIn w own L sh room s) {x : Nat} (hx : x < sh.n) : Calls Tryd.prog 31 #[.pointer (some ⟨L.bs x, 0, none⟩)] w fun e w' => e = .returned (.int .i64 ((s.q x).length : Nat)) ∧ w = w' := by
  obtain ⟨o, h1, _, _⟩ := h.heap hx
  exact q_len h1
theorem hlen_ok (h : TIn w own L sh room s) : Calls Tryd.prog 38 #[.pointer (some ⟨L.hb, 0, none⟩)] w fun e w' => e = .returned (.int .i64 (s.H.length : Nat)) ∧ w = w' := by
  obtain ⟨o, h1, _, _⟩ := h.wheel
  exact w_len h1
theorem len_ok (h : TIn w own L sh room s) : Calls Tryd.prog 18 #[.pointer (some ⟨L.b, 0, none⟩)] w fun e w' => e = .returned (.int .i64 (s.m : Nat)) ∧ w = w' := by
  obtain ⟨t0, t1, t2, t3, t4, -⟩ := h.fields
  clear h
  go_enter Tryd.func18, Tryd.ntmps18
  go_wp2_with fail
  go_ret
  exact ⟨rfl, rfl⟩
theorem now_ok (h : TIn w own L sh room s) : Calls Tryd.prog 16 #[.pointer (some ⟨L.b, 0, none⟩)] w fun e w' => e = .returned (.int .u64 (s.now : Nat)) ∧ w = w' := by
  obtain ⟨t0, t1, t2, t3, t4, -⟩ := h.fields
  clear h
  go_enter Tryd.func16, Tryd.ntmps16
  go_wp2_with fail
  go_ret
  exact ⟨rfl, rfl⟩
theorem held_ok (h : TIn w own L sh room s) : Calls Tryd.prog 20 #[.pointer (some ⟨L.b, 0, none⟩)] w fun e w' => e = .returned (.int .i64 (s.H.length : Nat)) ∧ w = w' := by
  obtain ⟨t0, t1, t2, t3, t4, -⟩ := h.fields
  have HL := Lib.hid (hlen_ok h)
  clear h
  go_enter Tryd.func20, Tryd.ntmps20
  go_wp2_with fail
  refine HL.out.mono ?_
  rintro e w' ⟨rfl, rfl⟩
  go_wp2_with fail
  go_ret
  exact ⟨rfl, rfl⟩
theorem waits_out (h : TIn w own L sh room s) (x : Int) (hx : x < 0 ∨ (sh.n : Int) ≤ x) : Calls Tryd.prog 25 #[.pointer (some ⟨L.b, 0, none⟩), .int .i64 x] w fun e w' => e = .returned (.int .i64 0) ∧ Upd Nowhere w w' := by
  obtain ⟨t0, -⟩ := h.fields
  clear h
  by_cases h0 : x < 0
  · have d1 : decide (x < 0) = true := decide_eq_true h0
    go_enter Tryd.func25, Tryd.ntmps25
    go_wp2_with fail
    go_ret
    exact ⟨rfl, Upd.refl _ _⟩
  · have d1 : decide (x < 0) = false := decide_eq_false h0
    have d2 : decide (x ≥ (sh.n : Int)) = true := decide_eq_true (by omega)
    have d3 : decide ((sh.n : Int) ≤ x) = true := decide_eq_true (by omega)
    go_enter Tryd.func25, Tryd.ntmps25
    go_wp2_with fail
    go_ret
    exact ⟨rfl, Upd.refl _ _⟩
theorem waits_ok (h : TIn w own L sh room s) {x : Nat} (hx : x < sh.n) : Calls Tryd.prog 25 #[.pointer (some ⟨L.b, 0, none⟩), .int .i64 (x : Nat)] w fun e w' => e = .returned (.int .i64 ((s.q x).length : Nat)) ∧ Upd Nowhere w w' := by
  obtain ⟨t0, -⟩ := h.fields
  obtain ⟨n0, n1, n2, n3, n4, n5, -⟩ := h.node hx
  have HL := fun u hu => Lib.hid (qlen_ok (h.old (w' := u) hu) hx)
  have d1 : decide ((x : Int) < 0) = false := decide_eq_false (by omega)
  have d2 : decide ((x : Int) ≥ (sh.n : Int)) = false := decide_eq_false (by omega)
  have d3 : decide ((sh.n : Int) ≤ (x : Int)) = false := decide_eq_false (by omega)
  have d4 : decide (sh.n ≤ x) = false := decide_eq_false (by omega)
  have hI : (x : Int) < (sh.n : Int) := by omega
  clear h
  go_enter Tryd.func25, Tryd.ntmps25
  go_wp2_with fail
  refine (HL _ (Upd.refl _ _)).out.mono ?_
  rintro e w' ⟨rfl, rfl⟩
  go_wp2_with fail
  go_ret
  exact ⟨rfl, Upd.refl _ _⟩
theorem pop_ok (hs : sh.Ok) (h : TIn w own L sh room s) (hg : Good sh room s) (hr : room ≤ 4096) (hc : s.c + 10000000 < 18446744073709551615) (hT : TabOff w own) {t : Nat} (ht : t ≤ 18446744073709551615) :
    Calls Tryd.prog 13 #[.pointer (some ⟨L.b, 0, none⟩), .int .u64 (t : Nat)] w fun e w' => e = .returned (.tuple #[VP (pop sh s t).1, .int .i64 ((pop sh s t).2.1 : Nat)]) ∧
      ∃ own', TIn w' own' L sh room (pop sh s t).2.2 ∧ Fol w own w' own' := by
  have hmf : ∀ (fn : Fn) (first cap : Array Value) (w : World), (Instr.makeFunc fn first cap).run Tryd.prog w = .ok (.func fn first cap) w := fun _ _ _ _ => rfl
  obtain ⟨R, hR⟩ : ∃ R, pop sh s t = R := ⟨_, rfl⟩
  rw [hR]
  unfold pop at hR
  simp only at hR
  have hgp := pass_good hs hg ht
  have hP := fun (u : World) (o : Nat → Prop) (hu : TIn u o L sh room s) (hTu : TabOff u o) => Lib.hid (pass_ok hs hu hg hr (by omega) hTu ht)
  obtain ⟨s1, hs1⟩ : ∃ s1, pass sh s t = s1 := ⟨_, rfl⟩
  rw [hs1] at hP hR hgp
  obtain ⟨w0, hw0⟩ : ∃ w0, w0 = (w.alloc (.cells #[.pointer (some ⟨L.b, 0, none⟩)] TPt)).alloc (.cells zp TPk) := ⟨_, rfl⟩
  have u0 : Upd Nowhere w w0 := by rw [hw0]; exact ((Upd.refl _ _).alloc _).alloc _
  have hA : Blk w0 w.heap.size #[.pointer (some ⟨L.b, 0, none⟩)] TPt := by rw [hw0]; exact (Blk.new _ _ _).alloc _
  have hB : Blk w0 (w.heap.size + 1) zp TPk := by rw [hw0]; exact Blk.new2 _ _ _ _
  have hno : ¬ own w.heap.size := fun h9 => absurd (h.lt h9) (Nat.lt_irrefl _)
  have hno2 : ¬ own (w.heap.size + 1) := fun h9 => absurd (h.lt h9) (by omega)
  have h1 := h.old u0
  have f0 : Fol w own w0 own := (Fol.refl _ _).old u0
  have hn1 := hs.pos
  have hn2 := hs.le
  obtain ⟨n, hn⟩ : ∃ n, sh.n = n := ⟨_, rfl⟩
  obtain ⟨t0, -⟩ := h1.fields
  rw [hn] at t0 hn1 hn2
  obtain ⟨AB, hAB⟩ : ∃ AB, w.heap.size = AB := ⟨_, rfl⟩
  obtain ⟨RB, hRB⟩ : ∃ RB, AB + 1 = RB := ⟨_, rfl⟩
  rw [hAB] at hA hno
  rw [hAB, hRB] at hB hno2
  have hRL : w.heap.size ≤ RB := by omega
  obtain ⟨a0, a1⟩ := cells1 hA
  obtain ⟨r0, r1, r2, y0, y1, y2⟩ := cells3 hB
  have hz : ((n : Int) == 0) = false := by simp; omega
  have HPA := Lib.hid (hP _ _ h1 (hT.fol f0)).out
  have F0 := Lib.hid f0
  have HA := Lib.hid hA
  have HB := Lib.hid hB
  have HNA := Lib.hid hno
  have HNR := Lib.hid hno2
  have HRL := Lib.hid hRL
  have HG := Lib.hid hgp
  have HRR := Lib.hid hR
  have HN := Lib.hid hn
  have HRB := Lib.hid hRB
  clear h hg hc hT h1 hA hB hno hno2 f0 hgp hP hs1 hR hn hRL u0
  go_enter Tryd.func13, Tryd.ntmps13
  go_upto_region 1 with fail
  generalize (w.alloc (.cells #[.pointer (some ⟨L.b, 0, none⟩)] TPt)).alloc (.cells zp TPk) = wz at hw0 ⊢
  subst hw0
  try simp only [hAB]
  have hrb := HRB.out
  try simp only [hrb]
  clear hrb
  go_wp2_with fail
  refine HPA.out.mono ?_
  rintro e w1 ⟨rfl, own1, h1, f1⟩
  have F1 := Lib.hid (F0.out.trans f1)
  have H1 := Lib.hid h1
  have HA1 := Lib.hid (HA.out.kept f1.upd HNA.out)
  have HB1 := Lib.hid (HB.out.kept f1.upd HNR.out)
  have HNA1 := Lib.hid (not_own f1 HNA.out HA.out.lt)
  have HNR1 := Lib.hid (not_own f1 HNR.out HB.out.lt)
  clear t0 a0 a1 r0 r1 r2 y0 y1 y2 h1 f1 HPA F0 HA HB HNA HNR
  obtain ⟨t0, t1, t2, t3, t4, z⟩ := H1.out.fields
  have z3 := z 3
  rw [HN.out] at t0
  obtain ⟨a0, a1⟩ := cells1 HA1.out
  obtain ⟨r0, r1, r2, y0, y1, y2⟩ := cells3 HB1.out
  obtain ⟨n0, n1, n2, n3, n4, n5, -⟩ := H1.out.node (i := 0) (by rw [HN.out]; exact hn1)
  have n5' : w1.cell? ⟨L.g, 5, none⟩ = some (.pointer (some ⟨L.bs 0, 0, none⟩)) := by simpa using n5
  clear z n0 n1 n2 n3 n4 n5
  have hR := HRR.out
  obtain ⟨m, hm⟩ : ∃ m, s1.m = m := ⟨_, rfl⟩
  rw [hm] at t3
  by_cases hm0 : m = 0
  · rw [if_pos (by rw [hm]; exact hm0)] at hR
    subst hR
    have q0 : ((m : Int) == 0) = true := by simp; omega
    clear hm hm0
    go_wp2_with fail
    have hW := (((H1.out.aside HNR1.out 0 (.int .u32 0)).aside HNR1.out 1 (.int .u32 0)).aside HNR1.out 2 (.int .u64 0))
    have hG := fol3 F1.out HRL.out (.int .u32 0) (.int .u32 0) (.int .u64 0)
    exact bodyPost_ret (v := .tuple #[.agg zp, .int .i64 18]) (by simp [results, Tryd.results13, go_sem, r0, r1, r2]) rfl ⟨rfl, own1, hW, hG⟩
  · rw [if_neg (by rw [hm]; exact hm0)] at hR
    have q0 : ((m : Int) == 0) = false := by simp; omega
    have HQL := Lib.hid (qlen_ok H1.out (x := 0) (by rw [HN.out]; exact hn1))
    have hi0 : (0 : Int) < (n : Int) := by omega
    by_cases hq0 : s1.q 0 = []
    · rw [if_pos hq0] at hR
      subst hR
      rw [hq0] at HQL
      clear hm hm0 hq0
      go_wp2_with fail
      refine HQL.out.mono ?_
      rintro e w2 ⟨rfl, rfl⟩
      go_wp2_with fail
      have hW := (((H1.out.aside HNR1.out 0 (.int .u32 0)).aside HNR1.out 1 (.int .u32 0)).aside HNR1.out 2 (.int .u64 0))
      have hG := fol3 F1.out HRL.out (.int .u32 0) (.int .u32 0) (.int .u64 0)
      exact bodyPost_ret (v := .tuple #[.agg zp, .int .i64 19]) (by simp [results, Tryd.results13, go_sem, r0, r1, r2]) rfl ⟨rfl, own1, hW, hG⟩
    · rw [if_neg hq0] at hR
      obtain ⟨ql, hql⟩ : ∃ ql, (s1.q 0).length = ql := ⟨_, rfl⟩
      have hql0 : 0 < ql := by rw [← hql]; exact List.length_pos_iff.2 hq0
      have q1 : ((ql : Int) == 0) = false := by simp; omega
      rw [hql] at HQL
      obtain ⟨m1, hm1⟩ : ∃ m1, m - 1 = m1 := ⟨_, rfl⟩
      have hm2 : (m : Int) - 1 = (m1 : Int) := by omega
      have hm3 : m ≤ 4096 := by have := HG.out.le; omega
      have HM := Lib.hid hm
      have HM1 := Lib.hid hm1
      have HQ0 := Lib.hid hq0
      have HRR := Lib.hid hR
      clear hm hm1 hq0 hql hR
      go_wp2_with fail
      refine HQL.out.mono ?_
      rintro e w2 ⟨rfl, rfl⟩
      obtain ⟨FB, hFB⟩ : ∃ FB, w1.heap.size = FB := ⟨_, rfl⟩
      obtain ⟨w2, hw2⟩ : ∃ w2, w2 = w1.alloc (.cells #[.func (.func 32) #[] #[.pointer (some ⟨AB, 0, none⟩), .pointer (some ⟨FB, 0, none⟩)]] TF) := ⟨_, rfl⟩
      have u2 : Upd Nowhere w1 w2 := by rw [hw2]; exact (Upd.refl _ _).alloc _
      have hF2 : Blk w2 FB #[.func (.func 32) #[] #[.pointer (some ⟨AB, 0, none⟩), .pointer (some ⟨FB, 0, none⟩)]] TF := by rw [hw2, ← hFB]; exact Blk.new _ _ _
      have hnF : ¬ own1 FB := fun h9 => absurd (H1.out.lt h9) (by omega)
      have H2 := Lib.hid (H1.out.old u2)
      have F2 := Lib.hid (F1.out.old u2)
      have HA2 := Lib.hid (HA1.out.kept u2 id)
      have HB2 := Lib.hid (HB1.out.kept u2 id)
      have HF2 := Lib.hid hF2
      have HNF2 := Lib.hid hnF
      have HFB := Lib.hid hFB
      clear hF2 hnF u2 hFB
      go_upto_region 10 with fail
      have hFB := HFB.out
      simp only [hFB]
      generalize w1.alloc (.cells #[.func (.func 32) #[] #[.pointer (some ⟨AB, 0, none⟩), .pointer (some ⟨FB, 0, none⟩)]] TF) = wz at hw2 ⊢
      subst hw2
      clear t0 t1 t2 t3 t4 z3 a0 a1 r0 r1 r2 y0 y1 y2 n5' hFB
      obtain ⟨t0, t1, t2, t3, t4, z⟩ := H2.out.fields
      rw [HM.out] at t3
      have z3 := z 3
      obtain ⟨a0, a1⟩ := cells1 HA2.out
      obtain ⟨own3, h3, f3⟩ := H2.out.put 3 (.int .i64 (m1 : Nat)) { s1 with m := s1.m - 1 } (by simp [tcell, HM.out, HM1.out]) (fun _ => rfl) rfl rfl
      have H3 := Lib.hid h3
      have F3 := Lib.hid (F2.out.trans f3)
      have HA3 := Lib.hid (HA2.out.kept f3.upd HNA1.out)
      have HB3 := Lib.hid (HB2.out.kept f3.upd HNR1.out)
      have HF3 := Lib.hid (HF2.out.kept f3.upd HNF2.out)
      have HNA3 := Lib.hid (not_own f3 HNA1.out HA2.out.lt)
      have HNR3 := Lib.hid (not_own f3 HNR1.out HB2.out.lt)
      have HNF3 := Lib.hid (not_own f3 HNF2.out HF2.out.lt)
      clear z h3 f3
      go_upto_region 11 with fail
      generalize w2.setCell ⟨L.b, 3, none⟩ (.int .i64 (m1 : Nat)) = w3 at *
      clear t0 t1 t2 t3 t4 z3 a0 a1
      obtain ⟨f0, f1⟩ := cells1 HF3.out
      have HDN := Lib.hid (down_ok hs (A := AB) (F := FB) 32 (x := 0) H3.out (m_bal HG.out.bal _) hs.pos HQ0.out (by have := hs.le; omega) HA3.out HF3.out HNA3.out HNF3.out)
      obtain ⟨PP, hPP⟩ : ∃ PP, down sh 32 { s1 with m := s1.m - 1 } 0 = PP := ⟨_, rfl⟩
      have hR3 := HRR.out
      change ((down sh 32 { s1 with m := s1.m - 1 } 0).1.2, 0, (down sh 32 { s1 with m := s1.m - 1 } 0).2) = R at hR3
      rw [hPP] at HDN hR3
      have HR3 := Lib.hid hR3
      clear hPP hR3
      go_wp2_with fail
      refine HDN.out.mono ?_
      rintro e w4 ⟨rfl, own4, h4, f4⟩
      have F4 := Lib.hid (F3.out.trans f4)
      have HNR4 := Lib.hid (not_own f4 HNR3.out HB3.out.lt)
      have HB4 := Lib.hid (HB3.out.kept f4.upd HNR3.out)
      have H4 := Lib.hid h4
      clear f0 f1 h4 f4 HDN
      obtain ⟨r0, r1, r2, y0, y1, y2⟩ := cells3 HB4.out
      obtain ⟨⟨pc, pa, pb, pl⟩, PS⟩ := PP
      go_wp2_with fail
      have hR := HR3.out
      subst hR
      have hW := (((H4.out.aside HNR4.out 0 (.int .u32 pa)).aside HNR4.out 1 (.int .u32 pb)).aside HNR4.out 2 (.int .u64 pl))
      have hG := fol3 F4.out HRL.out (.int .u32 pa) (.int .u32 pb) (.int .u64 pl)
      exact bodyPost_ret (v := .tuple #[VP (pa, pb, pl), .int .i64 0]) (by simp [results, Tryd.results13, go_sem, r0, r1, r2]) rfl ⟨rfl, own4, hW, hG⟩
end
end Go.Proofs.YtllfloapiliheaaDoor.Tree
namespace Go.Proofs.YtllfloapiliheaaDoor.Tree
open Go.RowKit Go.Proofs BigFrame
set_option maxHeartbeats 4000000
set_option maxRecDepth 1000000
/-- What a node is made of. -/
structure Nd where
  par : Int
  kind : Int
  wt : Nat
  gap : Nat
/-- Nodes in memory. -/
structure NodesAt (w : World) (ad : Option Addr) (l : List Nd) : Prop where
  none : ad = Option.none → l.length = 0
  at_ : ∀ b, ad = some b → 0 < l.length → b.spot = Option.none ∧ ∀ (i : Nat) (a : Nd), l[i]? = some a → w.cell? ⟨b.block, b.off + i * 4, Option.none⟩ = some (.int .i64 a.par) ∧ w.cell? ⟨b.block, b.off + i * 4 + 1, Option.none⟩ = some (.int .i64 a.kind) ∧ w.cell? ⟨b.block, b.off + i * 4 + 2, Option.none⟩ = some (.int .u64 a.wt) ∧ w.cell? ⟨b.block, b.off + i * 4 + 3, Option.none⟩ = some (.int .u64 a.gap)
/-- Whether a node may be the i-th. -/
def okN (i : Nat) (a : Nd) : Bool := decide (1 ≤ a.kind ∧ a.kind ≤ 3 ∧ 0 ≤ a.par ∧ a.par < max (i : Int) 1)
/-- Whether all from the i-th on may be. -/
def okL : Nat → List Nd → Bool
  | _, [] => true
  | i, a :: r => okN i a && okL (i + 1) r
abbrev TNo : TypeId := 50
theorem check_len (ad : Option Addr) (n c : Nat) (h : n = 0 ∨ 32 < n) (w : World) : Calls Tryd.prog 27 #[.slice ad n c] w fun e w' => e = .returned (.int .i64 29) ∧ Upd Nowhere w w' := by
  rcases h with rfl | h
  · go_enter Tryd.func27, Tryd.ntmps27
    go_wp2_with fail
    go_ret
    exact ⟨rfl, Upd.refl _ _⟩
  · have t1 : ((n : Int) == 0) = false := by simp; omega
    have t2 : decide ((n : Int) > 32) = true := decide_eq_true (by omega)
    have t3 : decide (32 < n) = true := decide_eq_true h
    go_enter Tryd.func27, Tryd.ntmps27
    go_wp2_with fail
    go_ret
    exact ⟨rfl, Upd.refl _ _⟩
theorem okL_drop {l : List Nd} {k : Nat} {a : Nd} (h : l[k]? = some a) : okL k (l.drop k) = (okN k a && okL (k + 1) (l.drop (k + 1))) := by
  have hlt : k < l.length := by
    rcases Nat.lt_or_ge k l.length with h' | h'
    · exact h'
    · rw [List.getElem?_eq_none h'] at h; cases h
  rw [List.drop_eq_getElem_cons hlt]
  rw [List.getElem?_eq_getElem hlt] at h
  rw [Option.some.inj h]
  rfl
theorem check_any (ad : Option Addr) (c : Nat) (l : List Nd) (w : World) (h : NodesAt w ad l) (h0 : 0 < l.length) (h1 : l.length ≤ 32) : Calls Tryd.prog 27 #[.slice ad l.length c] w fun e w' => e = .returned (.int .i64 (if okL 0 l then 0 else 6)) ∧ Upd Nowhere w w' := by
  obtain ⟨n, hn⟩ : ∃ n, l.length = n := ⟨_, rfl⟩
  obtain ⟨r, hr⟩ : ∃ r : Int, (if okL 0 l then 0 else 6) = r := ⟨_, rfl⟩
  rw [hr]
  rw [hn] at h0 h1 ⊢
  have t1 : ((n : Int) == 0) = false := by simp; omega
  have t2 : decide ((n : Int) > 32) = false := decide_eq_false (by omega)
  have t3 : decide (32 < n) = false := decide_eq_false (by omega)
  have H := Lib.hid h
  have HN := Lib.hid hn
  have HR : Hid ((if okL 0 (l.drop 0) then 0 else 6) = r) := Lib.hid hr
  clear h hn hr
  go_enter Tryd.func27, Tryd.ntmps27
  go_wp2_with fail
  go_loopw [15] (fun i wr => ∃ k : Nat, i = .int .i64 k ∧ k ≤ n ∧ Hid ((if okL k (l.drop k) then 0 else 6) = r) ∧ Upd Nowhere w wr) (fun i _ => n - (intOf i).toNat)
  case atStart => exact ⟨0, rfl, Nat.zero_le _, HR, Upd.refl _ _⟩
  case round =>
    clear HR
    obtain ⟨k, rfl, hk, hrk, hu⟩ := hrel
    obtain ⟨wB, rfl⟩ : ∃ x, x = wr := ⟨_, rfl⟩
    have HU := Lib.hid hu
    by_cases hlt : k < n
    · have hI : (k : Int) < n := by omega
      obtain ⟨a, ha⟩ : ∃ a, l[k]? = some a := ⟨l[k]'(by rw [HN.out]; exact hlt), by simp⟩
      obtain ⟨g, o, rfl, g0, g1, g2, g3⟩ : ∃ g o, ad = some ⟨g, o, none⟩ ∧ wB.cell? ⟨g, o + k * 4, none⟩ = some (.int .i64 a.par) ∧ wB.cell? ⟨g, o + k * 4 + 1, none⟩ = some (.int .i64 a.kind) ∧ wB.cell? ⟨g, o + k * 4 + 2, none⟩ = some (.int .u64 a.wt) ∧ wB.cell? ⟨g, o + k * 4 + 3, none⟩ = some (.int .u64 a.gap) := by
        cases ad with
        | none => have := H.out.none rfl; rw [HN.out] at this; omega
        | some b =>
          obtain ⟨hs, hc⟩ := H.out.at_ b rfl (by rw [HN.out]; omega)
          obtain ⟨g, o, sp⟩ := b
          simp only at hs
          subst hs
          obtain ⟨q0, q1, q2, q3⟩ := hc k a ha
          exact ⟨g, o, rfl, cell_old hu q0, cell_old hu q1, cell_old hu q2, cell_old hu q3⟩
      have g1' : wB.cell? ⟨g, o + (k * 4 + 1), none⟩ = some (.int .i64 a.kind) := by rw [← Nat.add_assoc]; exact g1
      have g2' : wB.cell? ⟨g, o + (k * 4 + 2), none⟩ = some (.int .u64 a.wt) := by rw [← Nat.add_assoc]; exact g2
      have g3' : wB.cell? ⟨g, o + (k * 4 + 3), none⟩ = some (.int .u64 a.gap) := by rw [← Nat.add_assoc]; exact g3
      have hrk2 := hrk.out
      rw [okL_drop ha] at hrk2
      obtain ⟨ap, ak, aw, ag⟩ := a
      obtain ⟨mx, hmx⟩ : ∃ mx : Int, max (k : Int) 1 = mx := ⟨_, rfl⟩
      have HRK := Lib.hid hrk2
      have HMX := Lib.hid hmx
      simp only at g0 g1 g2 g3 g1' g2' g3'
      clear hrk hrk2 ha hu
      by_cases hok : okN k ⟨ap, ak, aw, ag⟩ = true
      · have h9 := of_decide_eq_true hok
        simp only at h9
        rw [HMX.out] at h9
        have d1 : decide (ak < 1) = false := decide_eq_false (by omega)
        have d2 : decide (ak > 3) = false := decide_eq_false (by omega)
        have d2' : decide (3 < ak) = false := decide_eq_false (by omega)
        have d3 : decide (ap < 0) = false := decide_eq_false (by omega)
        have d4 : decide (ap ≥ mx) = false := decide_eq_false (by omega)
        have d5 : decide (mx ≤ ap) = false := decide_eq_false (by omega)
        have l1 : ap < mx := h9.2.2.2
        have HOK := Lib.hid hok
        clear hok h9
        go_wp2_with fail
        go_roundw
        case rel => exact ⟨k + 1, by first | rfl | go_num, by omega, Lib.hid (by have := HRK.out; rw [HOK.out, Bool.true_and] at this; exact this), HU.out.alloc _⟩
        case measure => simp [intOf]; omega
      · have hr6 : r = 6 := by
          have := HRK.out
          rw [Bool.eq_false_iff.mpr hok, Bool.false_and] at this
          rw [← this]; rfl
        subst hr6
        have h9 : ak < 1 ∨ 1 ≤ ak ∧ 3 < ak ∨ 1 ≤ ak ∧ ak ≤ 3 ∧ ap < 0 ∨ 1 ≤ ak ∧ ak ≤ 3 ∧ 0 ≤ ap ∧ mx ≤ ap := by
          have h8 := of_decide_eq_false (Bool.eq_false_iff.mpr hok)
          simp only [hmx] at h8
          omega
        clear hok HRK
        rcases h9 with h9 | ⟨p1, h9⟩ | ⟨p1, p2, h9⟩ | ⟨p1, p2, p3, h9⟩
        · have d1 : decide (ak < 1) = true := decide_eq_true h9
          go_wp2_with fail
          go_ret
          exact ⟨rfl, HU.out.alloc _⟩
        · have d1 : decide (ak < 1) = false := decide_eq_false (by omega)
          have d2 : decide (ak > 3) = true := decide_eq_true h9
          have d3 : decide (3 < ak) = true := decide_eq_true h9
          go_wp2_with fail
          go_ret
          exact ⟨rfl, HU.out.alloc _⟩
        · have d1 : decide (ak < 1) = false := decide_eq_false (by omega)
          have d2 : decide (ak > 3) = false := decide_eq_false (by omega)
          have d2' : decide (3 < ak) = false := decide_eq_false (by omega)
          have d3 : decide (ap < 0) = true := decide_eq_true h9
          go_wp2_with fail
          go_ret
          exact ⟨rfl, HU.out.alloc _⟩
        · have d1 : decide (ak < 1) = false := decide_eq_false (by omega)
          have d2 : decide (ak > 3) = false := decide_eq_false (by omega)
          have d2' : decide (3 < ak) = false := decide_eq_false (by omega)
          have d3 : decide (ap < 0) = false := decide_eq_false (by omega)
          have d4 : decide (ap ≥ mx) = true := decide_eq_true h9
          have d5 : decide (mx ≤ ap) = true := decide_eq_true h9
          have l1 : ¬ ap < mx := by omega
          go_wp2_with fail
          go_ret
          exact ⟨rfl, HU.out.alloc _⟩
    · obtain rfl : k = n := by omega
      have hI : ¬ (k : Int) < k := by omega
      have e9 := hrk.out
      rw [List.drop_eq_nil_of_le (by rw [HN.out]; exact Nat.le_refl _)] at e9
      have e8 : r = 0 := by rw [← e9]; rfl
      subst e8
      clear hu e9 hrk
      go_wp2_with fail
      go_ret
      exact ⟨rfl, HU.out⟩
end Go.Proofs.YtllfloapiliheaaDoor.Tree
namespace Go.Proofs.YtllfloapiliheaaDoor.Tree
open Go.RowKit Go.Proofs BigFrame
open HeapE (El VE Hq heapC q_new)
open WheelR (Ri Wq wheelC w_new)
set_option maxHeartbeats 4000000
set_option maxRecDepth 1000000
def nth (l : List Nd) (i : Nat) : Nd := l[i]?.getD ⟨0, 1, 0, 0⟩
theorem nth_at {l : List Nd} {i : Nat} {a : Nd} (h : l[i]? = some a) : nth l i = a := by unfold nth; rw [h]; rfl
/-- The shape of nodes, with the leaves as told. -/
def shW (l : List Nd) (lf : Nat → Bool) : Sh := ⟨l.length, fun i => (nth l i).par.toNat, fun i => (nth l i).kind.toNat, fun i => (nth l i).wt, fun i => (nth l i).gap, lf⟩
/-- No node's parent among the first k. -/
def lfK (l : List Nd) (k : Nat) : Nat → Bool := fun i => decide (∀ j, j < k → j ≠ 0 → (nth l j).par.toNat ≠ i)
def shOf (l : List Nd) : Sh := shW l (lfK l l.length)
theorem lfK_zero (l : List Nd) : lfK l 0 = fun _ => true := funext fun _ => decide_eq_true (fun _ hj => absurd hj (Nat.not_lt_zero _))
theorem lfK_one (l : List Nd) : lfK l 1 = lfK l 0 := funext fun i => by
  rw [lfK_zero]; exact decide_eq_true (fun j hj h0 => absurd (by omega : j = 0) h0)
theorem lfK_succ (l : List Nd) {k : Nat} (hk : k ≠ 0) : lfK l (k + 1) = up (lfK l k) (nth l k).par.toNat false := funext fun i => by
  unfold up
  by_cases e : i = (nth l k).par.toNat
  · rw [if_pos e]; exact decide_eq_false (fun h => h k (Nat.lt_succ_self k) hk e.symm)
  · rw [if_neg e]
    unfold lfK
    by_cases h : ∀ j, j < k → j ≠ 0 → (nth l j).par.toNat ≠ i
    · rw [decide_eq_true h]
      refine decide_eq_true (fun j hj h0 e2 => ?_)
      rcases Nat.lt_or_ge j k with h9 | h9
      · exact h j h9 h0 e2
      · obtain rfl : j = k := by omega
        exact e e2.symm
    · rw [decide_eq_false h]
      exact decide_eq_false (fun h9 => h (fun j hj => h9 j (by omega)))
/-- Nothing waits. -/
def s0 : TS := ⟨fun _ => [], fun _ => 0, fun _ => 0, fun _ => 0, [], 0, 0, 0, 0⟩
theorem s0_good (sh : Sh) (room : Nat) : Good sh room s0 :=
  ⟨⟨fun v hv h0 => (by simp [s0, cntE, cntH]; exact h0), fun i hi hl a ha => (by cases ha), fun i hi hl a ha => (by cases ha), fun i hi a ha => (by cases ha), fun a ha => (by cases ha), List.Pairwise.nil, ⟨fun _ => Nat.zero_le _, fun _ => Nat.zero_le _, fun _ => Nat.zero_le _⟩, Nat.le_refl _, Nat.zero_le _⟩, rfl, Nat.zero_le _⟩
theorem okL_at : ∀ {l : List Nd} {k : Nat}, okL k l = true → ∀ {i : Nat} {a : Nd}, l[i]? = some a → okN (k + i) a = true
  | [], _, _, _, _, h => by simp at h
  | b :: l, k, h, i, a, ha => by
    unfold okL at h
    rw [Bool.and_eq_true] at h
    cases i with
    | zero => simp only [List.getElem?_cons_zero] at ha; cases ha; exact h.1
    | succ i =>
      simp only [List.getElem?_cons_succ] at ha
      have := okL_at h.2 ha
      rw [show k + (i + 1) = k + 1 + i by omega]; exact this
/-- Numbers that fit. -/
def FitN (l : List Nd) : Prop := ∀ a ∈ l, a.wt ≤ 18446744073709551615 ∧ a.gap ≤ 18446744073709551615
theorem nth_ok {l : List Nd} (h : okL 0 l = true) {i : Nat} (hi : i < l.length) : 1 ≤ (nth l i).kind ∧ (nth l i).kind ≤ 3 ∧ 0 ≤ (nth l i).par ∧ (nth l i).par < max (i : Int) 1 ∧ nth l i ∈ l := by
  have ha : l[i]? = some (l[i]'hi) := List.getElem?_eq_getElem hi
  have h1 := okL_at h ha
  rw [Nat.zero_add] at h1
  have h2 := of_decide_eq_true h1
  rw [nth_at ha]
  exact ⟨h2.1, h2.2.1, h2.2.2.1, h2.2.2.2, List.getElem_mem hi⟩
theorem shOf_ok {l : List Nd} (h : okL 0 l = true) (h0 : 0 < l.length) (h1 : l.length ≤ 32) (hf : FitN l) : (shOf l).Ok := by
  refine ⟨h0, h1, fun i hi hn => ?_, fun i hi => ?_, fun i hi => ?_, fun i hi => ?_, fun i hi => ?_, fun i hi => ?_⟩
  · have := nth_ok h hi
    show (nth l i).par.toNat < i
    omega
  · have := nth_ok h hi
    show 1 ≤ (nth l i).kind.toNat
    omega
  · have := nth_ok h hi
    show (nth l i).kind.toNat ≤ 3
    omega
  · exact (hf _ (nth_ok h hi).2.2.2.2).1
  · exact (hf _ (nth_ok h hi).2.2.2.2).2
  · show decide _ = true ↔ _
    rw [decide_eq_true_eq]
    exact Iff.rfl
/-- The cells of a node as it is made. -/
def nc (l : List Nd) (bs : Nat → Nat) (i : Nat) : List Value := ncell ⟨0, 0, 0, 0, bs⟩ (shW l (fun _ => true)) s0 i
def bl (l : List Nd) (b hb room k : Nat) (bs : Nat → Nat) (v : Value) : List Comp := [blkC b #[v, .pointer (some ⟨hb, 0, none⟩), .int .u64 0, .int .i64 0, .int .i64 (room : Nat)] TT, rowW TN 9 v k ((List.range k).flatMap (nc l bs)), wheelC hb room 0 0 []] ++ (List.range k).map (fun i => heapC (bs i) room 0 [])
theorem nc_up (l : List Nd) (bs : Nat → Nat) {k B i : Nat} (h : i < k) : nc l (up bs k B) i = nc l bs i := by
  unfold nc ncell
  simp only
  rw [up_off bs (by omega)]
theorem bl_step {w w1 wx w6 : World} {l : List Nd} {b hb room k B : Nat} {bs : Nat → Nat} {v v' : Value} (h : Made w w1 (heapC B room 0 [] :: bl l b hb room k bs v)) (hx : Upd Nowhere w1 wx)
    (ho : w6.ownsRow 0 TN 9 v' (k + 1) ((List.range k).flatMap (nc l bs) ++ nc l (up bs k B) k)) (hu : Upd (fun k => v.ownBlock = some k) wx w6) (hn : OwnOrNew wx v v') :
    Made w (w6.setCell ⟨b, 0, none⟩ v') (bl l b hb room (k + 1) (up bs k B) v') := by
  obtain ⟨o, h1, h2, h3⟩ := Made.foc (rowW TN 9 v k ((List.range k).flatMap (nc l bs))) (wheelC hb room 0 0 [] :: (List.range k).map (fun i => heapC (bs i) room 0 [])) [heapC B room 0 [], blkC b #[v, .pointer (some ⟨hb, 0, none⟩), .int .u64 0, .int .i64 0, .int .i64 (room : Nat)] TT] h
  have e1 : (List.range k).flatMap (nc l bs) ++ nc l (up bs k B) k = (List.range (k + 1)).flatMap (nc l (up bs k B)) := by
    rw [List.range_succ, List.flatMap_append, List.flatMap_singleton]
    congr 1
    rw [List.flatMap_def, List.flatMap_def]
    congr 1
    exact List.map_congr_left fun i hi => (nc_up l bs (List.mem_range.1 hi)).symm
  rw [e1] at ho
  obtain ⟨a1, a2⟩ := rowW_push h1 hx ho hu hn
  have b1 := h3 w6 _ _ a1 a2
  obtain ⟨o2, c1, c2, c3⟩ := Made.foc (blkC b #[v, .pointer (some ⟨hb, 0, none⟩), .int .u64 0, .int .i64 0, .int .i64 (room : Nat)] TT) (rowW TN 9 v' (k + 1) ((List.range (k + 1)).flatMap (nc l (up bs k B))) :: wheelC hb room 0 0 [] :: (List.range k).map (fun i => heapC (bs i) room 0 [])) [heapC B room 0 []] b1
  have d1 := c3 (w6.setCell ⟨b, 0, none⟩ v') o2 (blkC b #[v', .pointer (some ⟨hb, 0, none⟩), .int .u64 0, .int .i64 0, .int .i64 (room : Nat)] TT) ⟨by simpa using c1.1.set 0 v', c1.2⟩ ⟨fun k hk => .inl hk, Upd.setCell (S := o2) (Upd.refl _ _) (fun _ => (c1.2 b).2 rfl) v'⟩
  refine d1.perm ?_
  unfold bl
  rw [List.range_succ, List.map_append]
  have e2 : (List.range k).map (fun i => heapC (up bs k B i) room 0 []) = (List.range k).map (fun i => heapC (bs i) room 0 []) := List.map_congr_left fun i hi => by rw [up_off bs (by have := List.mem_range.1 hi; omega)]
  have e3 : [k].map (fun i => heapC (up bs k B i) room 0 []) = [heapC B room 0 []] := by simp [up_at]
  rw [e2, e3]
  exact (List.perm_append_singleton (heapC B room 0 []) (_ :: _ :: _ :: _)).symm
/-- When all nodes are laid, it is a tree. -/
theorem bl_tree {w w1 : World} {l : List Nd} {b hb room g c : Nat} {bs : Nat → Nat} (h : Made w w1 (bl l b hb room l.length bs (.slice (some ⟨g, 0, none⟩) l.length c))) : ∃ own, TIn w1 own ⟨b, g, c, hb, bs⟩ (shW l (lfK l 0)) room s0 ∧ (∀ k, own k → w.heap.size ≤ k) ∧ Upd Nowhere w w1 := by
  obtain ⟨own, h1, h2, h3⟩ := h
  refine ⟨own, ?_, h2, h3⟩
  rw [lfK_zero]
  exact h1
theorem bl_cells {w w1 : World} {l : List Nd} {b hb room k : Nat} {bs : Nat → Nat} {v : Value} (h : Made w w1 (bl l b hb room k bs v)) : Blk w1 b #[v, .pointer (some ⟨hb, 0, none⟩), .int .u64 0, .int .i64 0, .int .i64 (room : Nat)] TT ∧ w1.ownsRow 0 TN 9 v k ((List.range k).flatMap (nc l bs)) ∧ v.ownBlock ≠ some b ∧ w.heap.size ≤ b := by
  obtain ⟨own, ⟨o, o', h1, ⟨o2, o3, h2, _, _, h4⟩, h5, h6⟩, h7, _⟩ := h
  refine ⟨h1.1, h2.1, fun e => ?_, h7 b ((h6 b).2 (.inl ((h1.2 b).2 rfl)))⟩
  exact h5 b ((h1.2 b).2 rfl) ((h4 b).2 (.inl ((h2.2 b).2 e)))
theorem tree_leaf {w : World} {own : Nat → Prop} {L : Lay} {l : List Nd} {room k : Nat} (h : TIn w own L (shW l (lfK l k)) room s0) (hk : k ≠ 0) (hp : (nth l k).par.toNat < l.length) :
    ∃ own', TIn (w.setCell ⟨L.g, (nth l k).par.toNat * 9 + 4, none⟩ (.bool false)) own' L (shW l (lfK l (k + 1))) room s0 ∧ Fol w own (w.setCell ⟨L.g, (nth l k).par.toNat * 9 + 4, none⟩ (.bool false)) own' :=
  h.set (i := (nth l k).par.toNat) hp (show 4 < 9 by omega) (.bool false) (shW l (lfK l (k + 1))) s0 rfl (fun i => by
    rw [lfK_succ l hk]
    by_cases e : i = (nth l k).par.toNat
    · subst e
      rw [if_pos rfl]
      simp [ncell, shW, up]
    · rw [if_neg e]
      simp [ncell, shW, up, e]) rfl rfl rfl
end Go.Proofs.YtllfloapiliheaaDoor.Tree
namespace Go.Proofs.YtllfloapiliheaaDoor.Tree
open Go.RowKit Go.Proofs BigFrame
open HeapE (El VE Hq heapC q_new)
open WheelR (Ri Wq wheelC w_new)
set_option maxHeartbeats 4000000
set_option maxRecDepth 1000000
abbrev ZN : Value := .agg #[.int .i64 0, .int .i64 0, .int .u64 0, .int .u64 0, .bool false, .pointer none, .int .u64 0, .int .u64 0, .int .u64 0]
theorem infoN : (Tryd.prog.info? TN).map (fun i => (i.zero, i.size, i.bytes)) = some (some ZN, 9, 72) := by kernel_rfl
theorem form9 {w : World} {v : Value} {n : Nat} {xs : List Value} (h : w.ownsRow 0 TN 9 v (n + 1) xs) : ∃ g c, v = .slice (some ⟨g, 0, none⟩) (n + 1) c := by
  rcases h.2 with ⟨_, h0⟩ | ⟨g, c, cur, rfl, _⟩
  · omega
  · exact ⟨g, c, rfl⟩
theorem cells1' {w : World} {b hb room : Nat} {v : Value} (h : Blk w b #[v, .pointer (some ⟨hb, 0, none⟩), .int .u64 0, .int .i64 0, .int .i64 (room : Nat)] TT) : w.cell? ⟨b, 0, none⟩ = some v ∧ w.frozen? ⟨b, 0, none⟩ = false := ⟨h.cellAt rfl, h.free 0⟩
theorem new_bad (ad : Option Addr) (c : Nat) (l : List Nd) (w : World) (room : Int) (hb : l.length = 0 ∨ 32 < l.length) :
    Calls Tryd.prog 11 #[.slice ad l.length c, .int .i64 room] w fun e w' => e = .returned (.tuple #[.pointer none, .int .i64 29]) ∧ Upd Nowhere w w' := by
  have HC := Lib.hid (check_len ad l.length c hb w)
  clear hb
  go_enter Tryd.func11, Tryd.ntmps11
  go_wp2_with fail
  refine (HC.out).mono ?_
  rintro e w1 ⟨rfl, u1⟩
  go_wp2_with fail
  go_ret2
  exact ⟨rfl, u1⟩
theorem new_arg (ad : Option Addr) (c : Nat) (l : List Nd) (w : World) (room : Int) (h : NodesAt w ad l) (h0 : 0 < l.length) (h1 : l.length ≤ 32) (hk : okL 0 l = false) :
    Calls Tryd.prog 11 #[.slice ad l.length c, .int .i64 room] w fun e w' => e = .returned (.tuple #[.pointer none, .int .i64 6]) ∧ Upd Nowhere w w' := by
  have hc := check_any ad c l w h h0 h1
  rw [hk] at hc
  have HC := Lib.hid hc
  clear h h0 h1 hk hc
  go_enter Tryd.func11, Tryd.ntmps11
  go_wp2_with fail
  refine (HC.out).mono ?_
  rintro e w1 ⟨rfl, u1⟩
  go_wp2_with fail
  go_ret2
  exact ⟨rfl, u1⟩
theorem new_caps (ad : Option Addr) (c : Nat) (l : List Nd) (w : World) (room : Int) (h : NodesAt w ad l) (h0 : 0 < l.length) (h1 : l.length ≤ 32) (hk : okL 0 l = true) (hr : room < 1 ∨ 4096 < room) :
    Calls Tryd.prog 11 #[.slice ad l.length c, .int .i64 room] w fun e w' => e = .returned (.tuple #[.pointer none, .int .i64 25]) ∧ Upd Nowhere w w' := by
  have hc := check_any ad c l w h h0 h1
  rw [hk] at hc
  have HC := Lib.hid hc
  have HB := fun u => Lib.hid (WheelR.new_bad room hr u)
  clear h h0 h1 hk hc hr
  go_enter Tryd.func11, Tryd.ntmps11
  go_wp2_with fail
  refine (HC.out).mono ?_
  rintro e w1 ⟨rfl, u1⟩
  go_wp2_with fail
  refine ((HB _).out).mono ?_
  rintro e w2 ⟨rfl, rfl⟩
  go_wp2_with fail
  go_ret2
  exact ⟨rfl, u1⟩
theorem new_ok (ad : Option Addr) (c : Nat) (l : List Nd) (w : World) (room : Nat) (h : NodesAt w ad l) (h0 : 0 < l.length) (h1 : l.length ≤ 32) (hk : okL 0 l = true) (hr1 : 1 ≤ room) (hr2 : room ≤ 4096) (hG : Tryd.tz64_ren.g 1 < w.heap.size) :
    Calls Tryd.prog 11 #[.slice ad l.length c, .int .i64 room] w fun e w' => ∃ L own, e = .returned (.tuple #[.pointer (some ⟨L.b, 0, none⟩), .int .i64 0]) ∧ TIn w' own L (shOf l) room s0 ∧ (∀ k, own k → w.heap.size ≤ k) ∧ Upd Nowhere w w' := by
  obtain ⟨i0, hi, hz0, hz1, hz2⟩ := info_parts infoN
  have hc := check_any ad c l w h h0 h1
  rw [hk] at hc
  have HC := Lib.hid hc
  have HB := fun u (hu : Upd Nowhere w u) => Lib.hid (w_new room hr1 hr2 u (Nat.lt_of_lt_of_le hG hu.size))
  obtain ⟨n, hn⟩ : ∃ n, l.length = n := ⟨_, rfl⟩
  rw [hn] at HC h0 h1 ⊢
  have H := Lib.hid h
  have HK := Lib.hid hk
  have HN := Lib.hid hn
  clear h hc hk hn
  go_enter Tryd.func11, Tryd.ntmps11
  go_wp2_with fail
  refine (HC.out).mono ?_
  rintro e w1 ⟨rfl, u1⟩
  go_wp2_with fail
  refine ((HB _ u1).out).mono ?_
  rintro e w2 ⟨rfl, ⟨o2, hw2, hf2⟩, u2⟩
  obtain ⟨hb, hhb⟩ : ∃ hb, w1.heap.size = hb := ⟨_, rfl⟩
  have hm2 : Made w w2 [wheelC hb room 0 0 []] := by
    have := (Made.start w).old u1
    rw [← hhb]
    exact this.more (C := wheelC w1.heap.size room 0 0 []) hw2 hf2 u2
  have HM2 := Lib.hid hm2
  have hU : Upd Nowhere w w2 := u1.trans u2 (fun _ _ h => h)
  have HU := Lib.hid hU
  have HHB := Lib.hid hhb
  clear hw2 hf2 u1 u2 HC HB hm2 hU hhb
  go_upto_region 8 with fail
  have hhb := HHB.out
  simp only [hhb]
  clear hhb
  obtain ⟨b, hbb⟩ : ∃ b, w2.heap.size = b := ⟨_, rfl⟩
  have hm3 : Made w (w2.alloc (.cells #[.slice none 0 0, .pointer (some ⟨hb, 0, none⟩), .int .u64 0, .int .i64 0, .int .i64 (room : Nat)] TT)) (bl l b hb room 0 (fun _ => 0) (.slice none 0 0)) := by
    have h9 := rowW_start TN 9 HM2.out
    rw [← hbb]
    exact h9.more (C := blkC w2.heap.size #[.slice none 0 0, .pointer (some ⟨hb, 0, none⟩), .int .u64 0, .int .i64 0, .int .i64 (room : Nat)] TT) (o := fun k => k = w2.heap.size) ⟨Blk.new _ _ _, fun _ => Iff.rfl⟩ (fun k hk => by rw [hk]; exact Nat.le_refl _) ((Upd.refl _ _).alloc _)
  generalize w2.alloc (.cells #[.slice none 0 0, .pointer (some ⟨hb, 0, none⟩), .int .u64 0, .int .i64 0, .int .i64 (room : Nat)] TT) = w3 at *
  simp only [hbb]
  have HM3 := Lib.hid hm3
  have HBB := Lib.hid hbb
  clear hm3 HM2 HU hbb
  have hn32 : n ≤ 32 := h1
  go_wp2_with fail
  go_loopw [35] (fun i wr => ∃ k : Nat, ∃ bs v, i = .int .i64 k ∧ k ≤ n ∧ Made w wr (bl l b hb room k bs v)) (fun i _ => n - (intOf i).toNat)
  case atStart => exact ⟨0, _, _, rfl, Nat.zero_le _, HM3.out⟩
  case round =>
    obtain ⟨k, bs, v, rfl, hk, hM⟩ := hrel
    obtain ⟨wB, rfl⟩ : ∃ x, x = wr := ⟨_, rfl⟩
    by_cases hlt : k < n
    · have hI : (k : Int) < n := by omega
      obtain ⟨a, ha⟩ : ∃ a, l[k]? = some a := ⟨l[k]'(by rw [HN.out]; exact hlt), by simp⟩
      have hu := hM.upd
      obtain ⟨g, o, rfl, g0, g1, g2, g3⟩ : ∃ g o, ad = some ⟨g, o, none⟩ ∧ wB.cell? ⟨g, o + k * 4, none⟩ = some (.int .i64 a.par) ∧ wB.cell? ⟨g, o + k * 4 + 1, none⟩ = some (.int .i64 a.kind) ∧ wB.cell? ⟨g, o + k * 4 + 2, none⟩ = some (.int .u64 a.wt) ∧ wB.cell? ⟨g, o + k * 4 + 3, none⟩ = some (.int .u64 a.gap) := by
        cases ad with
        | none => have := H.out.none rfl; rw [HN.out] at this; omega
        | some b =>
          obtain ⟨hs, hc⟩ := H.out.at_ b rfl (by rw [HN.out]; omega)
          obtain ⟨g, o, sp⟩ := b
          simp only at hs
          subst hs
          obtain ⟨q0, q1, q2, q3⟩ := hc k a ha
          exact ⟨g, o, rfl, cell_old hu q0, cell_old hu q1, cell_old hu q2, cell_old hu q3⟩
      have g1' : wB.cell? ⟨g, o + (k * 4 + 1), none⟩ = some (.int .i64 a.kind) := by rw [← Nat.add_assoc]; exact g1
      have g2' : wB.cell? ⟨g, o + (k * 4 + 2), none⟩ = some (.int .u64 a.wt) := by rw [← Nat.add_assoc]; exact g2
      have g3' : wB.cell? ⟨g, o + (k * 4 + 3), none⟩ = some (.int .u64 a.gap) := by rw [← Nat.add_assoc]; exact g3
      have hnth := nth_at ha
      have hok := nth_ok HK.out (i := k) (by rw [HN.out]; exact hlt)
      rw [hnth] at hok
      obtain ⟨ap, ak, aw, ag⟩ := a
      obtain ⟨p, rfl⟩ : ∃ p : Nat, ap = p := ⟨ap.toNat, by have : 0 ≤ ap := hok.2.2.1; omega⟩
      obtain ⟨kd, rfl⟩ : ∃ kd : Nat, ak = kd := ⟨ak.toNat, by have : 1 ≤ ak := hok.1; omega⟩
      simp only at g0 g1 g2 g3 g1' g2' g3'
      have HNT := Lib.hid hnth
      have HM := Lib.hid hM
      clear ha hu hnth hok hM HM3
      go_upto_region 11 with fail
      obtain ⟨CB, hCB⟩ : ∃ CB, wB.heap.size = CB := ⟨_, rfl⟩
      have hX4 : Blk (wB.alloc (.cells #[.int .i64 (p : Nat), .int .i64 (kd : Nat), .int .u64 (aw : Nat), .int .u64 (ag : Nat)] TNo)) CB #[.int .i64 (p : Nat), .int .i64 (kd : Nat), .int .u64 (aw : Nat), .int .u64 (ag : Nat)] TNo := by rw [← hCB]; exact Blk.new _ _ _
      have hM4 := HM.out.old ((Upd.refl _ _).alloc (.cells #[.int .i64 (p : Nat), .int .i64 (kd : Nat), .int .u64 (aw : Nat), .int .u64 (ag : Nat)] TNo))
      generalize wB.alloc (.cells #[.int .i64 (p : Nat), .int .i64 (kd : Nat), .int .u64 (aw : Nat), .int .u64 (ag : Nat)] TNo) = w4 at *
      simp only [hCB]
      have HX4 := Lib.hid hX4
      have HM4 := Lib.hid hM4
      have HQN := Lib.hid (q_new room w4 hr1 hr2)
      clear hX4 hM4 hCB HM g0 g1 g2 g3 g1' g2' g3'
      go_wp2_with fail
      refine HQN.out.mono ?_
      rintro e w5 ⟨rfl, ⟨oq, hq5, hf5⟩, u5⟩
      obtain ⟨HB, hHB⟩ : ∃ HB, w4.heap.size = HB := ⟨_, rfl⟩
      have hM5 : Made w w5 (heapC HB room 0 [] :: bl l b hb room k bs v) := by
        rw [← hHB]; exact HM4.out.more (C := heapC w4.heap.size room 0 []) hq5 hf5 u5
      obtain ⟨hB5, hrow5, hof5, hle5⟩ := bl_cells hM5.drop
      obtain ⟨av, cv, rfl⟩ : ∃ av cv, v = .slice av k cv := by
        rcases hrow5.2 with ⟨rfl, h0⟩ | ⟨g, c, cur, rfl, _⟩
        · exact ⟨none, 0, by rw [h0]⟩
        · exact ⟨_, _, rfl⟩
      have hX5 := HX4.out.kept u5 id
      have hnc : nc l (up bs k HB) k = [.int .i64 (p : Nat), .int .i64 (kd : Nat), .int .u64 (aw : Nat), .int .u64 (ag : Nat), .bool true, .pointer (some ⟨HB, 0, none⟩), .int .u64 0, .int .u64 0, .int .u64 0] := by
        unfold nc ncell
        simp only [shW, HNT.out, up_at, s0]
        rfl
      have HM5 := Lib.hid hM5
      have HB5 := Lib.hid hB5
      have HROW5 := Lib.hid hrow5
      have HOF5 := Lib.hid hof5
      have HNC := Lib.hid hnc
      have hk9 : k ≤ 999999999 := by omega
      go_upto_region 12 with fail
      try simp only [hHB]
      obtain ⟨x0, x1, x2, x3, -⟩ := cells4 hX5
      obtain ⟨c0, z0⟩ := cells1' hB5
      have a0 : (w5.alloc (.cells #[.int .i64 (p : Nat), .int .i64 (kd : Nat), .int .u64 (aw : Nat), .int .u64 (ag : Nat), .bool true, .pointer (some ⟨HB, 0, none⟩), .int .u64 0, .int .u64 0, .int .u64 0] TN)).cell? ⟨b, 0, none⟩ = some (.slice av k cv) := cell_old ((Upd.refl _ _).alloc _) c0
      clear hX5 hM5 hB5 hrow5 hof5 hnc hq5 hf5 u5 hHB HX4 HM4 HQN HNT hle5
      go_region_law (refine step_push rfl _ _ 75 rfl 0 TN i0 ZN 9 72 Tryd.underlying75 hi hz0 hz1 hz2 rfl (by decide) (by decide) (.slice av k cv) k _ rfl (ownsRow_upd HROW5.out (by repeat (first | with_reducible exact Upd.refl _ _ | with_reducible refine Upd.drew ?_ | with_reducible refine Upd.alloc ?_ _)) (fun _ _ h => h)) w5.heap.size 1 [.int .i64 (p : Nat), .int .i64 (kd : Nat), .int .u64 (aw : Nat), .int .u64 (ag : Nat), .bool true, .pointer (some ⟨HB, 0, none⟩), .int .u64 0, .int .u64 0, .int .u64 0] rfl rfl (new_cells w5 #[.int .i64 (p : Nat), .int .i64 (kd : Nat), .int .u64 (aw : Nat), .int .u64 (ag : Nat), .bool true, .pointer (some ⟨HB, 0, none⟩), .int .u64 0, .int .u64 0, .int .u64 0] _) (by simp [Value.oneCell']) hk9 (Nat.zero_le _) ?_; intro v6 w6 hown6 hu6 hn6; have H6 := Lib.hid (bl_step HM5.out (by repeat (first | with_reducible exact Upd.refl _ _ | with_reducible refine Upd.drew ?_ | with_reducible refine Upd.alloc ?_ _)) (by rw [HNC.out]; exact hown6) hu6 hn6); obtain ⟨g6, c6, rfl⟩ := form9 hown6; obtain ⟨y0, y1⟩ := cells1' ((HB5.out.kept (show Upd Nowhere w5 _ from (by repeat (first | with_reducible exact Upd.refl _ _ | with_reducible refine Upd.drew ?_ | with_reducible refine Upd.alloc ?_ _))) id).kept hu6 HOF5.out); clear hown6 hu6 hn6 c0 z0 a0)
      all_goals
        go_wp2_with fail
        go_roundw
        case rel => exact ⟨k + 1, _, _, by first | rfl | go_num, by omega, H6.out⟩
        case measure => simp [intOf]; omega
    · obtain rfl : k = n := by omega
      have hI : ¬ (k : Int) < k := by omega
      obtain ⟨g, c2, rfl⟩ : ∃ g c2, v = .slice (some ⟨g, 0, none⟩) k c2 := by
        rcases (bl_cells hM).2.1.2 with ⟨_, h9⟩ | ⟨g, c, cur, rfl, _⟩
        · omega
        · exact ⟨_, _, rfl⟩
      have hM9 : Made w wB (bl l b hb room l.length bs (.slice (some ⟨g, 0, none⟩) l.length c2)) := by rw [HN.out]; exact hM
      obtain ⟨own9, h9, hf9, hu9⟩ := bl_tree hM9
      obtain ⟨L, hL⟩ : ∃ L : Lay, (⟨b, g, c2, hb, bs⟩ : Lay) = L := ⟨_, rfl⟩
      have hLb : L.b = b := by rw [← hL]
      rw [hL] at h9
      have H9 := Lib.hid h9
      have F9 := Lib.hid hf9
      have U9 := Lib.hid hu9
      clear hM hM9 h9 hf9 hu9 HM3 hL
      go_wp2_with fail
      go_loopw [59] (fun i wr => ∃ k2 : Nat, ∃ own, i = .int .i64 k2 ∧ k2 ≤ k ∧ TIn wr own L (shW l (lfK l k2)) room s0 ∧ (∀ q, own q → w.heap.size ≤ q) ∧ Upd Nowhere w wr) (fun i _ => k - (intOf i).toNat)
      case atStart => exact ⟨0, own9, rfl, Nat.zero_le _, H9.out, F9.out, U9.out⟩
      case round =>
        obtain ⟨k2, own2, rfl, hk2, hTI, hF2, hU2⟩ := hrel
        obtain ⟨wC, rfl⟩ : ∃ x, x = wr := ⟨_, rfl⟩
        clear H9 F9 U9
        by_cases hlt2 : k2 < k
        · have hI2 : (k2 : Int) < k := by omega
          obtain ⟨a, ha⟩ : ∃ a, l[k2]? = some a := ⟨l[k2]'(by rw [HN.out]; exact hlt2), by simp⟩
          obtain ⟨ga, o, rfl, g0, g1, g2, g3⟩ : ∃ g o, ad = some ⟨g, o, none⟩ ∧ wC.cell? ⟨g, o + k2 * 4, none⟩ = some (.int .i64 a.par) ∧ wC.cell? ⟨g, o + k2 * 4 + 1, none⟩ = some (.int .i64 a.kind) ∧ wC.cell? ⟨g, o + k2 * 4 + 2, none⟩ = some (.int .u64 a.wt) ∧ wC.cell? ⟨g, o + k2 * 4 + 3, none⟩ = some (.int .u64 a.gap) := by
            cases ad with
            | none => have := H.out.none rfl; rw [HN.out] at this; omega
            | some b =>
              obtain ⟨hs, hc⟩ := H.out.at_ b rfl (by rw [HN.out]; omega)
              obtain ⟨g, o, sp⟩ := b
              simp only at hs
              subst hs
              obtain ⟨q0, q1, q2, q3⟩ := hc k2 a ha
              exact ⟨g, o, rfl, cell_old hU2 q0, cell_old hU2 q1, cell_old hU2 q2, cell_old hU2 q3⟩
          have g1' : wC.cell? ⟨ga, o + (k2 * 4 + 1), none⟩ = some (.int .i64 a.kind) := by rw [← Nat.add_assoc]; exact g1
          have g2' : wC.cell? ⟨ga, o + (k2 * 4 + 2), none⟩ = some (.int .u64 a.wt) := by rw [← Nat.add_assoc]; exact g2
          have g3' : wC.cell? ⟨ga, o + (k2 * 4 + 3), none⟩ = some (.int .u64 a.gap) := by rw [← Nat.add_assoc]; exact g3
          have hnth := nth_at ha
          have hok := nth_ok HK.out (i := k2) (by rw [HN.out]; exact hlt2)
          rw [hnth] at hok
          obtain ⟨ap, ak, aw, ag⟩ := a
          obtain ⟨p, rfl⟩ : ∃ p : Nat, ap = p := ⟨ap.toNat, by have : 0 ≤ ap := hok.2.2.1; omega⟩
          obtain ⟨kd, rfl⟩ : ∃ kd : Nat, ak = kd := ⟨ak.toNat, by have : 1 ≤ ak := hok.1; omega⟩
          simp only at g0 g1 g2 g3 g1' g2' g3'
          have hpk : p < k := by have : (p : Int) < max (k2 : Int) 1 := hok.2.2.2.1; omega
          have hnp : (nth l k2).par.toNat = p := by rw [hnth]; rfl
          have HNP := Lib.hid hnp
          have H2 := Lib.hid hTI
          have F2 := Lib.hid hF2
          have U2 := Lib.hid hU2
          clear ha hnth hok hTI hF2 hU2 hnp
          by_cases hk0 : k2 = 0
          · have d1 : decide ((k2 : Int) > 0) = false := decide_eq_false (by omega)
            have d2 : decide (0 < k2) = false := decide_eq_false (by omega)
            have H3 : Hid (TIn wC own2 L (shW l (lfK l (k2 + 1))) room s0) := Lib.hid (by have := H2.out; subst hk0; rw [lfK_one]; exact this)
            clear hk0
            go_wp2_with fail
            go_roundw
            case rel => exact ⟨k2 + 1, own2, by first | rfl | go_num, by omega, H3.out.old ((Upd.refl _ _).alloc _), F2.out, U2.out.alloc _⟩
            case measure => simp [intOf]; omega
          · have d1 : decide ((k2 : Int) > 0) = true := decide_eq_true (by omega)
            have d2 : decide (0 < k2) = true := decide_eq_true (by omega)
            have hk00 := hk0
            have HK0 := Lib.hid hk00
            clear hk0 hk00
            obtain ⟨CB, hCB⟩ : ∃ CB, wC.heap.size = CB := ⟨_, rfl⟩
            have hX4 : Blk (wC.alloc (.cells #[.int .i64 (p : Nat), .int .i64 (kd : Nat), .int .u64 (aw : Nat), .int .u64 (ag : Nat)] TNo)) CB #[.int .i64 (p : Nat), .int .i64 (kd : Nat), .int .u64 (aw : Nat), .int .u64 (ag : Nat)] TNo := by rw [← hCB]; exact Blk.new _ _ _
            have hu4 : Upd Nowhere wC (wC.alloc (.cells #[.int .i64 (p : Nat), .int .i64 (kd : Nat), .int .u64 (aw : Nat), .int .u64 (ag : Nat)] TNo)) := (Upd.refl _ _).alloc _
            have hne4 : CB ∉ ([] : List Nat) := fun h => by cases h
            go_upto_region 18 with fail
            generalize wC.alloc (.cells #[.int .i64 (p : Nat), .int .i64 (kd : Nat), .int .u64 (aw : Nat), .int .u64 (ag : Nat)] TNo) = w4 at *
            have H4 := Lib.hid (H2.out.old hu4)
            have U4 := Lib.hid (U2.out.trans hu4 (fun _ _ h => h))
            clear g0 g1 g2 g3 g1' g2' g3' H2 U2 hu4 hCB hne4
            obtain ⟨x0, x1, x2, x3, -⟩ := cells4 hX4
            obtain ⟨t0, -⟩ := H4.out.fields
            rw [hLb] at t0
            have t0' : w4.cell? ⟨b, 0, none⟩ = some (.slice (some ⟨L.g, 0, none⟩) k L.cap) := by rw [t0]; show some (Value.slice _ (l.length : Nat) _) = _; rw [HN.out]
            have zf := H4.out.frozen (i := p) (show p < l.length by rw [HN.out]; exact hpk) (show 4 < 9 by omega)
            have hpi : (p : Int) < (k : Int) := by omega
            obtain ⟨-, -, -, -, c4, -⟩ := H4.out.node (i := p) (show p < l.length by rw [HN.out]; exact hpk)
            obtain ⟨lv, hlv⟩ : ∃ lv, (shW l (lfK l k2)).leaf p = lv := ⟨_, rfl⟩
            rw [hlv] at c4
            clear hlv
            clear t0
            refine wp_region_tail 8 (by kernel_rfl) (by kernel_rfl) ?_
            simp only [List.take_succ_cons, List.take_zero, List.drop_succ_cons, List.drop_zero]
            repeat (go_big_quiet_step (fail))
            refine wpQuiet_nil ?_
            rintro _ ⟨nq, rfl⟩
            go_wp2
            refine Stage.out ?_
            have hlf := tree_leaf (H4.out.old ((Upd.refl Nowhere w4).drewN nq)) HK0.out (by rw [HNP.out, HN.out]; exact hpk)
            rw [HNP.out] at hlf
            obtain ⟨own5, h5, f5⟩ := hlf
            have H5 := Lib.hid h5
            have F5 : Hid (∀ q, own5 q → w.heap.size ≤ q) := Lib.hid (fun q hq => (f5.at_ q hq).elim (F2.out q) (fun h9 => Nat.le_trans U4.out.size h9))
            have U5 := Lib.hid ((U4.out.drewN nq).trans f5.upd (fun q hlt hq => absurd (F2.out q hq) (Nat.not_le.2 hlt)))
            clear h5 f5 F2
            go_wp2_with fail
            go_roundw
            case rel => exact ⟨k2 + 1, own5, by first | rfl | go_num, by omega, H5.out, F5.out, U5.out⟩
            case measure => simp [intOf]; omega
        · obtain rfl : k2 = k := by omega
          have hI2 : ¬ (k2 : Int) < k2 := by omega
          have e9 : shW l (lfK l k2) = shOf l := by unfold shOf; rw [HN.out]
          have H3 : Hid (TIn wC own2 L (shOf l) room s0) := Lib.hid (by rw [← e9]; exact hTI)
          clear hTI e9
          go_wp2_with fail
          go_ret2
          exact ⟨L, by rw [hLb]; rfl, own2, H3.out, hF2, hU2⟩
end Go.Proofs.YtllfloapiliheaaDoor.Tree
namespace Go.Proofs.YtllfloapiliheaaDoor.Tree
open Go.RowKit Go.Proofs BigFrame
set_option maxHeartbeats 4000000
set_option maxRecDepth 1000000
/-- A tree, among other things: at most c came. -/
def treeC (L : Lay) (sh : Sh) (room : Nat) (s : TS) (c : Nat) : Comp :=
  ⟨fun w o => TIn w o L sh room s ∧ Good sh room s ∧ s.c ≤ c, fun h hu hS => ⟨h.1.kept hu hS, h.2⟩, fun h hk => h.1.lt hk⟩
/-- The table of the program's, where it lies. -/
structure Env (w : World) : Prop where
  tab : WheelR.Tab w
  low : Tryd.tz64_ren.g 1 < w.heap.size
theorem Env.old {w w' : World} (h : Env w) (hu : Upd Nowhere w w') : Env w' := ⟨h.tab.old hu id, Nat.lt_of_lt_of_le h.low hu.size⟩
section
variable {w0 w : World} {l : List Comp} {L : Lay} {sh : Sh} {room c : Nat} {s s' : TS}
theorem Made.env (h : Made w0 w l) (E : Env w0) {o : Nat → Prop} (ho : ∀ k, o k → w0.heap.size ≤ k) : TabOff w o :=
  ⟨E.tab.old h.upd id, fun hk => absurd (ho _ hk) (Nat.not_le.2 E.low), Nat.lt_of_lt_of_le E.low h.upd.size⟩
theorem m_push (l1 l2 : List Comp) (h : Made w0 w (l1 ++ treeC L sh room s c :: l2)) (E : Env w0) (hs : sh.Ok) (hr : room ≤ 4096) (hc : c + 20000000 < 18446744073709551615) {t : Nat} (ht : t ≤ 18446744073709551615) (leaf : Int) (a b d : Nat) (ha : a < 4294967296) (hb : b < 4294967296) (hd : d ≤ 18446744073709551615) {v : Nat} (hv : push sh room s t leaf (a, b, d) = (v, s')) :
    Calls Tryd.prog 14 #[.pointer (some ⟨L.b, 0, none⟩), .int .u64 (t : Nat), .int .i64 leaf, .agg (pcell a b d)] w fun e w' => e = .returned (.int .i64 (v : Nat)) ∧ Made w0 w' (l1 ++ treeC L sh room s' (c + 10000000) :: l2) := by
  obtain ⟨o, ⟨h1, hg, hcc⟩, h2, h3⟩ := Made.foc _ _ _ h
  have hp := push_good hs hg hr ht leaf (a, b, d) ha hb
  refine (push_ok hs h1 hg hr (by omega) (Made.env h E h2) ht leaf a b d ha hb hd).mono ?_
  rw [hv] at hp ⊢
  rintro e w' ⟨rfl, own', hi, hf⟩
  have hp2 : s'.c ≤ s.c + 10000000 := hp.2.2
  exact ⟨rfl, h3 w' own' (treeC L sh room s' (c + 10000000)) ⟨hi, hp.1, by omega⟩ hf⟩
theorem m_pop (l1 l2 : List Comp) (h : Made w0 w (l1 ++ treeC L sh room s c :: l2)) (E : Env w0) (hs : sh.Ok) (hr : room ≤ 4096) (hc : c + 20000000 < 18446744073709551615) {t : Nat} (ht : t ≤ 18446744073709551615) {p : Nat × Nat × Nat} {v : Nat} (hv : pop sh s t = (p, v, s')) :
    Calls Tryd.prog 13 #[.pointer (some ⟨L.b, 0, none⟩), .int .u64 (t : Nat)] w fun e w' => e = .returned (.tuple #[VP p, .int .i64 (v : Nat)]) ∧ Made w0 w' (l1 ++ treeC L sh room s' (c + 10000000) :: l2) := by
  obtain ⟨o, ⟨h1, hg, hcc⟩, h2, h3⟩ := Made.foc _ _ _ h
  have hp := pop_good hs hg hr ht
  refine (pop_ok hs h1 hg hr (by omega) (Made.env h E h2) ht).mono ?_
  rw [hv] at hp ⊢
  rintro e w' ⟨rfl, own', hi, hf⟩
  have hp2 : s'.c ≤ s.c + 10000000 := hp.2.2
  exact ⟨rfl, h3 w' own' (treeC L sh room s' (c + 10000000)) ⟨hi, hp.1, by omega⟩ hf⟩
theorem m_tree (l1 l2 : List Comp) (h : Made w0 w (l1 ++ treeC L sh room s c :: l2)) : ∃ own, TIn w own L sh room s ∧ Good sh room s := by
  obtain ⟨o, ⟨h1, hg, hcc⟩, h2, h3⟩ := Made.foc _ _ _ h
  exact ⟨o, h1, hg⟩
theorem NodesAt.old {w w' : World} {ad : Option Addr} {l : List Nd} (h : NodesAt w ad l) (hu : Upd Nowhere w w') : NodesAt w' ad l :=
  ⟨h.none, fun b hb h0 => ⟨(h.at_ b hb h0).1, fun i a ha => by
    obtain ⟨h1, h2, h3, h4⟩ := (h.at_ b hb h0).2 i a ha
    exact ⟨cell_old hu h1, cell_old hu h2, cell_old hu h3, cell_old hu h4⟩⟩⟩
theorem m_new (h : Made w0 w l) (E : Env w0) {ad : Option Addr} {cp : Nat} {nl : List Nd} (hn : NodesAt w ad nl) (h0 : 0 < nl.length) (h1 : nl.length ≤ 32) (hk : okL 0 nl = true) (hr1 : 1 ≤ room) (hr2 : room ≤ 4096) :
    Calls Tryd.prog 11 #[.slice ad nl.length cp, .int .i64 room] w fun e w' => ∃ L : Lay, e = .returned (.tuple #[.pointer (some ⟨L.b, 0, none⟩), .int .i64 0]) ∧ Made w0 w' (treeC L (shOf nl) room s0 0 :: l) := by
  refine (new_ok ad cp nl w room hn h0 h1 hk hr1 hr2 (Nat.lt_of_lt_of_le E.low h.upd.size)).mono ?_
  rintro e w' ⟨L, own, rfl, h4, h5, h6⟩
  exact ⟨L, rfl, h.more (C := treeC L (shOf nl) room s0 0) ⟨h4, s0_good _ _, Nat.le_refl _⟩ h5 h6⟩
end
/-- The example's nodes. -/
def lvN : List Nd := [⟨0, 2, 0, 0⟩, ⟨0, 1, 5, 0⟩, ⟨0, 1, 1, 0⟩]
theorem lv_at (w : World) : NodesAt (w.alloc (.cells #[.int .i64 0, .int .i64 2, .int .u64 0, .int .u64 0, .int .i64 0, .int .i64 1, .int .u64 5, .int .u64 0, .int .i64 0, .int .i64 1, .int .u64 1, .int .u64 0] TNo)) (some ⟨w.heap.size, 0, none⟩) lvN := by
  refine ⟨(fun h => by cases h), fun b hb _ => ?_⟩
  cases hb
  have hc := new_cells w #[.int .i64 0, .int .i64 2, .int .u64 0, .int .u64 0, .int .i64 0, .int .i64 1, .int .u64 5, .int .u64 0, .int .i64 0, .int .i64 1, .int .u64 1, .int .u64 0] TNo
  refine ⟨rfl, fun i a ha => ?_⟩
  match i, ha with
  | 0, ha => cases ha; exact ⟨hc 0 _ rfl, hc 1 _ rfl, hc 2 _ rfl, hc 3 _ rfl⟩
  | 1, ha => cases ha; exact ⟨hc 4 _ rfl, hc 5 _ rfl, hc 6 _ rfl, hc 7 _ rfl⟩
  | 2, ha => cases ha; exact ⟨hc 8 _ rfl, hc 9 _ rfl, hc 10 _ rfl, hc 11 _ rfl⟩
theorem lv_ok : (shOf lvN).Ok := shOf_ok (by decide) (by decide) (by decide) (by unfold FitN; decide)
def lv1 : TS := (push (shOf lvN) 9 s0 0 1 (0, 1, 1)).2
def lv2 : TS := (push (shOf lvN) 9 lv1 0 2 (0, 2, 1)).2
def lv3 : TS := (pop (shOf lvN) lv2 0).2.2
def lv4 : TS := (pop (shOf lvN) lv3 0).2.2
def lv5 : TS := (pop (shOf lvN) lv4 0).2.2
theorem lp1 : push (shOf lvN) 9 s0 0 1 (0, 1, 1) = (0, lv1) := Prod.ext (by decide) rfl
theorem lp2 : push (shOf lvN) 9 lv1 0 2 (0, 2, 1) = (0, lv2) := Prod.ext (by decide) rfl
theorem lp3 : pop (shOf lvN) lv2 0 = ((0, 2, 1), 0, lv3) := Prod.ext (by decide) (Prod.ext (by decide) rfl)
theorem lp4 : pop (shOf lvN) lv3 0 = ((0, 1, 1), 0, lv4) := Prod.ext (by decide) (Prod.ext (by decide) rfl)
theorem lp5 : pop (shOf lvN) lv4 0 = ((0, 0, 0), 18, lv5) := Prod.ext (by decide) (Prod.ext (by decide) rfl)
end Go.Proofs.YtllfloapiliheaaDoor.Tree
namespace Go.Proofs.YtllfloapiliheaaDoor.Tree
open Go.RowKit Go.Proofs BigFrame
set_option maxHeartbeats 4000000
set_option maxRecDepth 1000000
theorem lives (w : World) (E : Env w) : Calls Tryd.prog 10 #[] w fun e w' => e = .returned (.bool true) ∧ Upd Nowhere w w' := by
  have hm0 : Made w (w.alloc (.cells #[.int .i64 0, .int .i64 2, .int .u64 0, .int .u64 0, .int .i64 0, .int .i64 1, .int .u64 5, .int .u64 0, .int .i64 0, .int .i64 1, .int .u64 1, .int .u64 0] TNo)) [] := (Made.start w).old ((Upd.refl _ _).alloc _)
  have HN := Lib.hid (m_new (room := 9) (cp := 3) hm0 E (lv_at w) (by decide) (by decide) (by decide) (by omega) (by omega))
  have HE := Lib.hid E
  clear E hm0
  go_enter Tryd.func10, Tryd.ntmps10
  go_wp2_with fail
  refine (HN.out).mono ?_
  rintro e w1 ⟨L, rfl, h1⟩
  have H1 := Lib.hid h1
  clear h1 HN
  go_wp2_with fail
  refine (m_push [] [] H1.out HE.out lv_ok (by omega) (by omega) (by omega) 1 0 1 1 (by omega) (by omega) (by omega) lp1).mono ?_
  rintro e w2 ⟨rfl, h2⟩
  have H2 := Lib.hid h2
  clear h2 H1
  go_wp2_with fail
  refine (m_push [] [] H2.out HE.out lv_ok (by omega) (by omega) (by omega) 2 0 2 1 (by omega) (by omega) (by omega) lp2).mono ?_
  rintro e w3 ⟨rfl, h3⟩
  have H3 := Lib.hid h3
  clear h3 H2
  go_wp2_with fail
  refine (m_pop [] [] H3.out HE.out lv_ok (by omega) (by omega) (by omega) lp3).mono ?_
  rintro e w4 ⟨rfl, h4⟩
  have H4 := Lib.hid (h4.more (C := blkC w4.heap.size #[.int .u32 0, .int .u32 2, .int .u64 1] TPk) (o := fun k => k = w4.heap.size) ⟨Blk.new _ _ _, fun _ => Iff.rfl⟩ (fun k hk => by rw [hk]; exact Nat.le_refl _) ((Upd.refl _ _).alloc (.cells #[.int .u32 0, .int .u32 2, .int .u64 1] TPk)))
  clear h4 H3
  go_upto_region 5 with fail
  generalize w4.alloc (.cells #[.int .u32 0, .int .u32 2, .int .u64 1] TPk) = w5 at *
  generalize w4.heap.size = P at *
  go_wp2_with fail
  refine (m_pop [blkC P #[.int .u32 0, .int .u32 2, .int .u64 1] TPk] [] H4.out HE.out lv_ok (by omega) (by omega) (by omega) lp4).mono ?_
  rintro e w6 ⟨rfl, h6⟩
  have H6 := Lib.hid (h6.more (C := blkC w6.heap.size #[.int .u32 0, .int .u32 1, .int .u64 1] TPk) (o := fun k => k = w6.heap.size) ⟨Blk.new _ _ _, fun _ => Iff.rfl⟩ (fun k hk => by rw [hk]; exact Nat.le_refl _) ((Upd.refl _ _).alloc (.cells #[.int .u32 0, .int .u32 1, .int .u64 1] TPk)))
  clear h6 H4
  go_upto_region 6 with fail
  generalize w6.alloc (.cells #[.int .u32 0, .int .u32 1, .int .u64 1] TPk) = w7 at *
  generalize w6.heap.size = Q at *
  go_wp2_with fail
  refine (m_pop [blkC Q #[.int .u32 0, .int .u32 1, .int .u64 1] TPk, blkC P #[.int .u32 0, .int .u32 2, .int .u64 1] TPk] [] H6.out HE.out lv_ok (by omega) (by omega) (by omega) lp5).mono ?_
  rintro e w8 ⟨rfl, h8⟩
  have h9 := h8.old ((Upd.refl _ _).alloc (.cells #[.int .u32 0, .int .u32 0, .int .u64 0] TPk))
  have hu9 := h9.upd
  obtain ⟨o1, hq, _, _⟩ := Made.foc (blkC Q #[.int .u32 0, .int .u32 1, .int .u64 1] TPk) [blkC P #[.int .u32 0, .int .u32 2, .int .u64 1] TPk, treeC L (shOf lvN) 9 lv5 50000000] [] h9
  obtain ⟨o2, hp, _, _⟩ := Made.foc (blkC P #[.int .u32 0, .int .u32 2, .int .u64 1] TPk) [treeC L (shOf lvN) 9 lv5 50000000] [blkC Q #[.int .u32 0, .int .u32 1, .int .u64 1] TPk] h9
  obtain ⟨q0, q1, q2, -⟩ := cells3 hq.1
  obtain ⟨p0, p1, p2, -⟩ := cells3 hp.1
  clear h8 h9 H6 hq hp
  go_upto_region 7 with fail
  generalize w8.alloc (.cells #[.int .u32 0, .int .u32 0, .int .u64 0] TPk) = w9 at *
  go_wp2_with fail
  go_ret
  exact ⟨rfl, hu9⟩
/-- One that nobody made. -/
theorem nobody_law (now : Nat) (node : Int) (a b c : Nat) (w : World) (E : Env w) : Calls Tryd.prog 9 #[.int .u64 now, .int .i64 node, .agg #[.int .u32 a, .int .u32 b, .int .u64 c]] w fun e w' => e = .returned (.bool true) ∧ Upd Nowhere w w' := by
  have HL := fun u (hu : Upd Nowhere w u) => Lib.hid (lives u (E.old hu))
  have hX : Blk (w.alloc (.cells (pcell a b c) TPk)) w.heap.size (pcell a b c) TPk := Blk.new _ _ _
  have hu0 : Upd Nowhere w (w.alloc (.cells (pcell a b c) TPk)) := (Upd.refl _ _).alloc _
  clear E
  go_enter Tryd.func9, Tryd.ntmps9
  go_upto_region 2 with fail
  generalize w.alloc (.cells (pcell a b c) TPk) = w0 at *
  generalize w.heap.size = X at *
  go_wp2_with fail
  refine (pop_nil now w0).mono ?_
  rintro e w1 ⟨rfl, u1⟩
  have hX1 := hX.kept u1 id
  have hu1 := hu0.trans u1 (fun _ _ h => h)
  have hQ : Blk (w1.alloc (.cells zp TPk)) w1.heap.size zp TPk := Blk.new _ _ _
  have hX2 := hX1.kept (S := Nowhere) ((Upd.refl _ _).alloc (.cells zp TPk)) id
  have hu2 := hu1.alloc (.cells zp TPk)
  clear hX hX1 u1 hu0 hu1
  go_upto_region 3 with fail
  generalize w1.alloc (.cells zp TPk) = w2 at *
  generalize w1.heap.size = Q at *
  obtain ⟨x0, x1, x2, -⟩ := cells3 hX2
  go_wp2_with fail
  refine (push_nil now node a b c w2).mono ?_
  rintro e w3 ⟨rfl, u3⟩
  obtain ⟨q0, q1, q2, -⟩ := cells3 (hQ.kept u3 id)
  have hu3 := hu2.trans u3 (fun _ _ h => h)
  clear u3 hu2 x0 x1 x2 hQ hX2
  have HWN := Lib.hid (waits_nil node w3)
  go_wp2_with fail
  refine (len_nil w3).mono ?_
  rintro e w4 ⟨rfl, rfl⟩
  go_wp2_with fail
  refine (held_nil w3).mono ?_
  rintro e w4 ⟨rfl, rfl⟩
  go_wp2_with fail
  refine (HWN.out).mono ?_
  rintro e w4 ⟨rfl, k, rfl⟩
  have hu4 := hu3.drewN k
  clear q0 q1 q2 hu3 HWN
  generalize w3.drewN k = w5 at *
  go_wp2_with fail
  refine (now_nil w5).mono ?_
  rintro e w6 ⟨rfl, rfl⟩
  go_wp2_with fail
  refine ((HL _ hu4).out).mono ?_
  rintro e w6 ⟨rfl, u6⟩
  go_wp2_with fail
  go_ret
  exact ⟨rfl, hu4.trans u6 (fun _ _ h => h)⟩
end Go.Proofs.YtllfloapiliheaaDoor.Tree
