/- TreeCore, TreeDefs, TreeRank, TreeCome, TreePlain, TreePlain2, TreePass0, TreePass, TreeNil, TreePush, one behind the other. -/
import Derived.Test.YtpgpjjkeginbbaaGreatDoorMtHe
import Derived.Test.YtpgpjjkeginbbaaGreatDoorMtWr
import Derived.Test.YtpgpjjkeginbbaaGreatDoorMtA
import Derived.Test.YtpgpjjkeginbbaaGreatDoorMtSat
import Derived.Deep.RegionWith
import Derived.Deep.DeepCutAuto
import Derived.Deep.RegionHeld3
import Derived.Deep.LoopGhost
namespace Go.Proofs.YtpgpjjkeginbbaaGreatDoor
open Go.RowKit
/-- Things by number, behind others: one of them. -/
theorem Sep.nth {w : World} {own : Nat → Prop} (P : List Comp) (f : Nat → Comp) {r : List Nat} {i : Nat} (h : Sep w (P ++ r.map f) own) (hi : i ∈ r) (hr : r.Nodup) :
 ∃ o, (f i).P w o ∧ (∀ k, o k → own k) ∧ ∀ (w' : World) (o' : Nat → Prop) (C' : Comp), C'.P w' o' → Fol w o w' o' → ∃ own', Sep w' (P ++ r.map (fun k => if k = i then C' else f k)) own' ∧ Fol w own w' own' := by
 obtain ⟨r1, r2, rfl⟩ := List.append_of_mem hi
 rw [List.map_append, List.map_cons, ← List.append_assoc] at h
 obtain ⟨o, h1, h2, h3⟩ := Sep.foc _ _ _ h
 refine ⟨o, h1, h2, fun w' o' C' hC hf => ?_⟩
 obtain ⟨own', a1, a2⟩ := h3 w' o' C' hC hf
 refine ⟨own', ?_, a2⟩
 have hn := List.nodup_append.1 hr
 have e1 : r1.map (fun k => if k = i then C' else f k) = r1.map f := List.map_congr_left fun k hk => if_neg (hn.2.2 k hk i (List.mem_cons_self ..))
 have e2 : r2.map (fun k => if k = i then C' else f k) = r2.map f := List.map_congr_left fun k hk => if_neg (fun (e : k = i) => (List.nodup_cons.1 hn.2.1).1 (e ▸ hk))
 rw [List.map_append, List.map_cons, ← List.append_assoc, e1, e2, if_pos rfl]
 exact a1
theorem Sep.imps {w : World} (f f' : Nat → Comp) : ∀ {r : List Nat} {own : Nat → Prop}, (∀ k ∈ r, ∀ o, (f k).P w o → (f' k).P w o) → Sep w (r.map f) own → Sep w (r.map f') own
 | [], _, _, h => h
 | k :: _, _, hf, ⟨o, o', h1, h2, h3⟩ => ⟨o, o', hf k (List.mem_cons_self ..) o h1, Sep.imps f f' (fun j hj => hf j (List.mem_cons_of_mem _ hj)) h2, h3⟩
theorem Sep.impsP {w : World} (f f' : Nat → Comp) {r : List Nat} (hf : ∀ k ∈ r, ∀ o, (f k).P w o → (f' k).P w o) : ∀ (P : List Comp) {own : Nat → Prop}, Sep w (P ++ r.map f) own → Sep w (P ++ r.map f') own
 | [], _, h => Sep.imps f f' hf h
 | _ :: P, _, ⟨o, o', h1, h2, h3⟩ => ⟨o, o', h1, Sep.impsP f f' hf P h2, h3⟩
theorem Sep.imp1 {w : World} {C C' : Comp} (hc : ∀ o, C.P w o → C'.P w o) : ∀ (P : List Comp) {l : List Comp} {own : Nat → Prop}, Sep w (P ++ C :: l) own → Sep w (P ++ C' :: l) own
 | [], _, _, ⟨o, o', h1, h2, h3⟩ => ⟨o, o', hc o h1, h2, h3⟩
 | _ :: P, _, _, ⟨o, o', h1, h2, h3⟩ => ⟨o, o', h1, Sep.imp1 hc P h2, h3⟩
theorem flat_len {α : Type} {W : Nat} (f : Nat → List α) (hf : ∀ i, (f i).length = W) : ∀ n, ((List.range n).flatMap f).length = n * W
 | 0 => by simp
 | n + 1 => by rw [List.range_succ, List.flatMap_append, List.length_append, flat_len f hf n]; simp [hf, Nat.succ_mul]
theorem flat_get {α : Type} {W : Nat} (f : Nat → List α) (hf : ∀ i, (f i).length = W) {i j : Nat} (hj : j < W) : ∀ {n : Nat}, i < n → ((List.range n).flatMap f)[i * W + j]? = (f i)[j]?
 | n + 1, hi => by
   rw [List.range_succ, List.flatMap_append]
   have hl := flat_len f hf n
   rcases Nat.lt_or_ge i n with h | h
   · rw [List.getElem?_append_left (by rw [hl]; calc i * W + j < (i + 1) * W := by rw [Nat.succ_mul]; omega
      _ ≤ n * W := Nat.mul_le_mul_right _ h), flat_get f hf hj h]
   · have e : i = n := by omega
     subst e
     rw [List.getElem?_append_right (by rw [hl]; omega), hl, show i * W + j - i * W = j by omega]
     simp
theorem flat_set {α : Type} {W : Nat} (f : Nat → List α) (hf : ∀ i, (f i).length = W) {i j : Nat} (hj : j < W) (u : α) : ∀ {n : Nat}, i < n → ((List.range n).flatMap f).set (i * W + j) u = (List.range n).flatMap (fun k => if k = i then (f i).set j u else f k)
 | n + 1, hi => by
   rw [List.range_succ, List.flatMap_append, List.flatMap_append, List.set_append]
   have hl := flat_len f hf n
   rcases Nat.lt_or_ge i n with h | h
   · rw [if_pos (by rw [hl]; calc i * W + j < (i + 1) * W := by rw [Nat.succ_mul]; omega
      _ ≤ n * W := Nat.mul_le_mul_right _ h), flat_set f hf hj u h]
     congr 1
     simp [show ¬ n = i by omega]
   · have e : i = n := by omega
     subst e
     rw [if_neg (by rw [hl]; omega), hl, show i * W + j - i * W = j by omega]
     congr 1
     · rw [List.flatMap_def, List.flatMap_def]
       congr 1
       exact List.map_congr_left fun k hk => (if_neg (by rw [List.mem_range] at hk; omega)).symm
     · simp
namespace Tree
open HeapE (El Hq VE heapC)
open WheelR (Ri Wq wheelC)
/-- A tree's shape. -/
structure Sh where
 n : Nat
 par : Nat → Nat
 kind : Nat → Nat
 wt : Nat → Nat
 gap : Nat → Nat
 leaf : Nat → Bool
/-- A tree's state. -/
structure TS where
 q : Nat → List (Nat × El)
 vi : Nat → Nat
 tg : Nat → Nat
 fr : Nat → Nat
 H : List (Nat × Ri)
 wn : Nat
 now : Nat
 m : Nat
 c : Nat
/-- Where it lies. -/
structure Lay where
 b : Nat
 g : Nat
 cap : Nat
 hb : Nat
 bs : Nat → Nat
abbrev TT : TypeId := 108
abbrev TN : TypeId := 115
abbrev TE : TypeId := 113
def up {α : Type} (f : Nat → α) (i : Nat) (x : α) : Nat → α := fun k => if k = i then x else f k
theorem up_at {α : Type} (f : Nat → α) (i : Nat) (x : α) : up f i x i = x := if_pos rfl
theorem up_off {α : Type} (f : Nat → α) {i k : Nat} (h : k ≠ i) (x : α) : up f i x k = f k := if_neg h
/-- A node's cells. -/
def ncell (L : Lay) (sh : Sh) (s : TS) (i : Nat) : List Value := [.int .i64 (sh.par i : Nat), .int .i64 (sh.kind i : Nat), .int .u64 (sh.wt i : Nat), .int .u64 (sh.gap i : Nat), .bool (sh.leaf i), .pointer (some ⟨L.bs i, 0, none⟩), .int .u64 (s.vi i : Nat), .int .u64 (s.tg i : Nat), .int .u64 (s.fr i : Nat)]
def tcell (L : Lay) (sh : Sh) (room : Nat) (s : TS) : Array Value := #[.slice (some ⟨L.g, 0, none⟩) sh.n L.cap, .pointer (some ⟨L.hb, 0, none⟩), .int .u64 (s.now : Nat), .int .i64 (s.m : Nat), .int .i64 (room : Nat)]
def tops (L : Lay) (sh : Sh) (room : Nat) (s : TS) : List Comp := [blkC L.b (tcell L sh room s) TT, rowW TN 9 (.slice (some ⟨L.g, 0, none⟩) sh.n L.cap) sh.n ((List.range sh.n).flatMap (ncell L sh s)), wheelC L.hb room s.wn s.c s.H]
def qs (L : Lay) (room : Nat) (s : TS) (i : Nat) : Comp := heapC (L.bs i) room s.c (s.q i)
/-- A tree in memory. -/
def TIn (w : World) (own : Nat → Prop) (L : Lay) (sh : Sh) (room : Nat) (s : TS) : Prop := Sep w (tops L sh room s ++ (List.range sh.n).map (qs L room s)) own
section
variable {w w' : World} {own : Nat → Prop} {L : Lay} {sh : Sh} {room : Nat} {s : TS}
theorem TIn.old (h : TIn w own L sh room s) (hu : Upd Nowhere w w') : TIn w' own L sh room s := Sep.old h hu
theorem TIn.kept (h : TIn w own L sh room s) {S : Nat → Prop} (hu : Upd S w w') (hS : ∀ k, own k → ¬ S k) : TIn w' own L sh room s := Sep.kp hu h hS
theorem TIn.lt (h : TIn w own L sh room s) {k : Nat} (hk : own k) : k < w.heap.size := Sep.lt h hk
theorem TIn.blk (h : TIn w own L sh room s) : Blk w L.b (tcell L sh room s) TT := by
 obtain ⟨o, o', h1, _⟩ := h; exact h1.1
theorem TIn.row (h : TIn w own L sh room s) : ∃ o, (rowW TN 9 (.slice (some ⟨L.g, 0, none⟩) sh.n L.cap) sh.n ((List.range sh.n).flatMap (ncell L sh s))).P w o := by
 obtain ⟨_, _, _, ⟨o, _, h1, _⟩, _⟩ := h; exact ⟨o, h1⟩
theorem ncell_len (i : Nat) : (ncell L sh s i).length = 9 := rfl
theorem TIn.cell (h : TIn w own L sh room s) {i j : Nat} (hi : i < sh.n) {v : Value} (hv : (ncell L sh s i)[j]? = some v) : w.cell? ⟨L.g, i * 9 + j, none⟩ = some v ∧ w.frozen? ⟨L.g, i * 9 + j, none⟩ = false := by
 obtain ⟨o, h1⟩ := h.row
 have hj : j < 9 := by
  rcases Nat.lt_or_ge j 9 with h' | h'
  · exact h'
  · rw [List.getElem?_eq_none (by rw [ncell_len]; exact h')] at hv; cases hv
 exact rowW_cell h1 (by rw [flat_get _ ncell_len hj hi]; exact hv)
/-- A node's heap. -/
theorem TIn.heap (h : TIn w own L sh room s) {i : Nat} (hi : i < sh.n) : ∃ o, Hq w (L.bs i) o room s.c (s.q i) ∧ (∀ k, o k → own k) ∧
 ∀ (w' : World) (o' : Nat → Prop) (c' : Nat) (q' : List (Nat × El)), s.c ≤ c' → Hq w' (L.bs i) o' room c' q' → Fol w o w' o' → ∃ own', TIn w' own' L sh room { s with q := up s.q i q', c := c' } ∧ Fol w own w' own' := by
 obtain ⟨o, h1, h2, h3⟩ := Sep.nth _ _ h (List.mem_range.2 hi) List.nodup_range
 refine ⟨o, h1, h2, fun w' o' c' q' hc hq hf => ?_⟩
 obtain ⟨own', a1, a2⟩ := h3 w' o' (heapC (L.bs i) room c' q') hq hf
 refine ⟨own', ?_, a2⟩
 have b1 := Sep.impsP (w := w') _ (qs L room { s with q := up s.q i q', c := c' }) (fun k _ o hk => by
  by_cases e : k = i
  · subst e
    rw [if_pos rfl] at hk
    show Hq w' (L.bs k) o room c' (up s.q k q' k)
    rw [up_at]; exact hk
  · rw [if_neg e] at hk
    show Hq w' (L.bs k) o room c' (up s.q i q' k)
    rw [up_off _ e]
    exact (show Hq w' (L.bs k) o room s.c (s.q k) from hk).more hc) _ a1
 exact Sep.imp1 (P := [blkC L.b (tcell L sh room s) TT, rowW TN 9 (.slice (some ⟨L.g, 0, none⟩) sh.n L.cap) sh.n ((List.range sh.n).flatMap (ncell L sh s))]) (C := wheelC L.hb room s.wn s.c s.H) (C' := wheelC L.hb room s.wn c' s.H) (fun o (hk : Wq w' _ o _ _ _ _) => (hk.more hc : Wq w' L.hb o room s.wn c' s.H)) b1
/-- What is held. -/
theorem TIn.wheel (h : TIn w own L sh room s) : ∃ o, Wq w L.hb o room s.wn s.c s.H ∧ (∀ k, o k → own k) ∧
 ∀ (w' : World) (o' : Nat → Prop) (wn' c' : Nat) (H' : List (Nat × Ri)), s.c ≤ c' → Wq w' L.hb o' room wn' c' H' → Fol w o w' o' → ∃ own', TIn w' own' L sh room { s with wn := wn', H := H', c := c' } ∧ Fol w own w' own' := by
 obtain ⟨o, h1, h2, h3⟩ := Sep.foc (wheelC L.hb room s.wn s.c s.H) ((List.range sh.n).map (qs L room s)) [blkC L.b (tcell L sh room s) TT, rowW TN 9 (.slice (some ⟨L.g, 0, none⟩) sh.n L.cap) sh.n ((List.range sh.n).flatMap (ncell L sh s))] h
 refine ⟨o, h1, h2, fun w' o' wn' c' H' hc hq hf => ?_⟩
 obtain ⟨own', a1, a2⟩ := h3 w' o' (wheelC L.hb room wn' c' H') hq hf
 refine ⟨own', ?_, a2⟩
 have e : ∀ (A B C : Comp) (l : List Comp), [A, B] ++ C :: l = [A, B, C] ++ l := fun _ _ _ _ => rfl
 rw [e] at a1
 exact Sep.impsP (w := w') _ (qs L room { s with wn := wn', H := H', c := c' }) (fun k _ o hk => (show Hq w' (L.bs k) o room s.c (s.q k) from hk).more hc) _ a1
/-- One cell of a node, written. -/
theorem TIn.set (h : TIn w own L sh room s) {i j : Nat} (hi : i < sh.n) (hj : j < 9) (u : Value) (sh' : Sh) (s' : TS) (hn : sh'.n = sh.n)
 (hc : ∀ k, ncell L sh' s' k = if k = i then (ncell L sh s i).set j u else ncell L sh s k) (hb : tcell L sh' room s' = tcell L sh room s) (hw : wheelC L.hb room s'.wn s'.c s'.H = wheelC L.hb room s.wn s.c s.H) (hq : qs L room s' = qs L room s) :
 ∃ own', TIn (w.setCell ⟨L.g, i * 9 + j, none⟩ u) own' L sh' room s' ∧ Fol w own (w.setCell ⟨L.g, i * 9 + j, none⟩ u) own' := by
 obtain ⟨o, h1, h2, h3⟩ := Sep.foc (rowW TN 9 (.slice (some ⟨L.g, 0, none⟩) sh.n L.cap) sh.n ((List.range sh.n).flatMap (ncell L sh s))) (wheelC L.hb room s.wn s.c s.H :: (List.range sh.n).map (qs L room s)) [blkC L.b (tcell L sh room s) TT] h
 obtain ⟨b1, b2⟩ := rowW_set h1 (i * 9 + j) u
 obtain ⟨own', a1, a2⟩ := h3 _ _ _ b1 b2
 refine ⟨own', ?_, a2⟩
 rw [flat_set _ ncell_len hj u hi] at a1
 have e : (fun k => if k = i then (ncell L sh s i).set j u else ncell L sh s k) = ncell L sh' s' := funext fun k => (hc k).symm
 rw [e] at a1
 unfold TIn tops
 rw [hb, hw, hq, hn]
 exact a1
/-- A cell of the tree's own, written. -/
theorem TIn.put (h : TIn w own L sh room s) (j : Nat) (u : Value) (s' : TS)
 (hb : tcell L sh room s' = (tcell L sh room s).setIfInBounds j u) (hr : ∀ k, ncell L sh s' k = ncell L sh s k) (hw : wheelC L.hb room s'.wn s'.c s'.H = wheelC L.hb room s.wn s.c s.H) (hq : qs L room s' = qs L room s) :
 ∃ own', TIn (w.setCell ⟨L.b, j, none⟩ u) own' L sh room s' ∧ Fol w own (w.setCell ⟨L.b, j, none⟩ u) own' := by
 obtain ⟨o, h1, h2, h3⟩ := Sep.foc (blkC L.b (tcell L sh room s) TT) (rowW TN 9 (.slice (some ⟨L.g, 0, none⟩) sh.n L.cap) sh.n ((List.range sh.n).flatMap (ncell L sh s)) :: wheelC L.hb room s.wn s.c s.H :: (List.range sh.n).map (qs L room s)) [] h
 obtain ⟨own', a1, a2⟩ := h3 (w.setCell ⟨L.b, j, none⟩ u) o (blkC L.b ((tcell L sh room s).setIfInBounds j u) TT) ⟨h1.1.set j u, h1.2⟩ ⟨fun k hk => .inl hk, Upd.setCell (S := o) (Upd.refl _ _) (fun _ => (h1.2 L.b).2 rfl) u⟩
 refine ⟨own', ?_, a2⟩
 unfold TIn tops
 have e : ncell L sh s' = ncell L sh s := funext hr
 rw [hb, hw, hq, e]
 exact a1
end
end Tree
end Go.Proofs.YtpgpjjkeginbbaaGreatDoor
namespace Go.Proofs.YtpgpjjkeginbbaaGreatDoor.Tree
open HeapE (El VE)
open WheelR (Ri)
open Cal (ins)
/-- a + b * c, capped. -/
def mad (a b c : Nat) : Nat := min (a + b * c) 18446744073709551615
theorem mad_le (a b c : Nat) : mad a b c ≤ 18446744073709551615 := Nat.min_le_right _ _
/-- An element: a child; a packet. -/
abbrev chi (i : Nat) : El := ((i : Nat), 0, 0, 0)
/-- A shape that may be. -/
structure Sh.Ok (sh : Sh) : Prop where
 pos : 1 ≤ sh.n
 le : sh.n ≤ 32
 par : ∀ i, i < sh.n → i ≠ 0 → sh.par i < i
 k1 : ∀ i, i < sh.n → 1 ≤ sh.kind i
 k3 : ∀ i, i < sh.n → sh.kind i ≤ 3
 wt : ∀ i, i < sh.n → sh.wt i ≤ 18446744073709551615
 gap : ∀ i, i < sh.n → sh.gap i ≤ 18446744073709551615
 leaf : ∀ i, i < sh.n → (sh.leaf i = true ↔ ∀ j, j < sh.n → j ≠ 0 → sh.par j ≠ i)
theorem Sh.Ok.inner {sh : Sh} (h : sh.Ok) {i : Nat} (hi : i < sh.n) (h0 : i ≠ 0) : sh.par i < sh.n ∧ sh.leaf (sh.par i) = false := by
 have h1 := h.par i hi h0
 refine ⟨by omega, ?_⟩
 cases e : sh.leaf (sh.par i) with
 | false => rfl
 | true => exact absurd rfl ((h.leaf _ (by omega)).1 e i hi h0)
/-- Numbers that fit. -/
structure TS.Fit (s : TS) : Prop where
 vi : ∀ i, s.vi i ≤ 18446744073709551615
 tg : ∀ i, s.tg i ≤ 18446744073709551615
 fr : ∀ i, s.fr i ≤ 18446744073709551615
/-- An element's rank in a node. -/
def rk (sh : Sh) (s : TS) (i : Nat) (e : El) : Nat :=
 if sh.kind i = 1 then 0 else if sh.kind i = 2 then (if sh.leaf i = true then e.2.2.2 else sh.wt e.1.toNat) else (if sh.leaf i = true then e.2.1 else max (s.vi i) (s.tg e.1.toNat))
/-- What asking for a rank leaves. -/
def tagged (sh : Sh) (s : TS) (i : Nat) (e : El) (by' : Nat) : TS :=
 if sh.kind i = 3 ∧ sh.leaf i = false then { s with tg := up s.tg e.1.toNat (mad (max (s.vi i) (s.tg e.1.toNat)) (sh.wt e.1.toNat) by') } else s
/-- An element comes into a node. -/
def entered (sh : Sh) (s : TS) (i : Nat) (e : El) (by' : Nat) : TS :=
 { tagged sh s i e by' with q := up s.q i (ins (rk sh s i e) e (s.q i)), c := s.c + 1 }
/-- A node is held. -/
def holds (sh : Sh) (s : TS) (at' i by' : Nat) : TS :=
 { s with fr := up s.fr i (mad (max at' (s.fr i)) (sh.gap i) by'), H := ins (max at' (s.fr i)) ((i, by') : Ri) s.H, c := s.c + 1 }
/-- An element comes into a node, and up from there. -/
def come (sh : Sh) : Nat → TS → Nat → Nat → El → Nat → TS
 | 0, s, _, _, _, _ => s
 | f + 1, s, at', i, e, by' =>
   if i = 0 then entered sh s i e by'
   else if sh.gap i = 0 then come sh f (entered sh s i e by') at' (sh.par i) (chi i) by'
   else holds sh (entered sh s i e by') at' i by'
/-- The first one held rises. -/
def rise1 (sh : Sh) (s : TS) : TS :=
 match s.H with
 | (t, v, by') :: r => if t ≤ s.now then come sh 32 { s with H := r, wn := t } t (sh.par v) (chi v) by' else s
 | [] => s
def rises (sh : Sh) : Nat → TS → TS
 | 0, s => s
 | k + 1, s => rises sh k (rise1 sh s)
/-- How often something may rise. -/
def meas (H : List (Nat × Ri)) : Nat := (H.map fun a => a.2.1 + 1).sum
/-- Time goes by. -/
def pass (sh : Sh) (s : TS) (now : Nat) : TS := rises sh (meas s.H) { s with now := max s.now now }
/-- Down to a leaf. -/
def down (sh : Sh) : Nat → TS → Nat → El × TS
 | 0, s, _ => ((0, 0, 0, 0), s)
 | f + 1, s, i =>
   match s.q i with
   | [] => ((0, 0, 0, 0), s)
   | (r, e) :: t =>
     if sh.leaf i = true then (e, { s with q := up s.q i t })
     else down sh f (if sh.kind i = 3 then { s with q := up s.q i t, vi := up s.vi i r } else { s with q := up s.q i t }) e.1.toNat
theorem tagged_q (sh : Sh) (s : TS) (i : Nat) (e : El) (b : Nat) : (tagged sh s i e b).q = s.q := by unfold tagged; split <;> rfl
theorem tagged_H (sh : Sh) (s : TS) (i : Nat) (e : El) (b : Nat) : (tagged sh s i e b).H = s.H := by unfold tagged; split <;> rfl
theorem tagged_c (sh : Sh) (s : TS) (i : Nat) (e : El) (b : Nat) : (tagged sh s i e b).c = s.c := by unfold tagged; split <;> rfl
theorem tagged_wn (sh : Sh) (s : TS) (i : Nat) (e : El) (b : Nat) : (tagged sh s i e b).wn = s.wn := by unfold tagged; split <;> rfl
theorem tagged_now (sh : Sh) (s : TS) (i : Nat) (e : El) (b : Nat) : (tagged sh s i e b).now = s.now := by unfold tagged; split <;> rfl
theorem tagged_m (sh : Sh) (s : TS) (i : Nat) (e : El) (b : Nat) : (tagged sh s i e b).m = s.m := by unfold tagged; split <;> rfl
theorem up_le {f : Nat → Nat} {B : Nat} (h : ∀ i, f i ≤ B) {x : Nat} (hx : x ≤ B) (i : Nat) : ∀ k, up f i x k ≤ B := fun k => by
 unfold up; split
 · exact hx
 · exact h k
theorem fit_tagged {sh : Sh} {s : TS} (h : s.Fit) (i : Nat) (e : El) (b : Nat) : (tagged sh s i e b).Fit := by
 unfold tagged
 split
 · exact ⟨h.vi, up_le h.tg (mad_le _ _ _) _, h.fr⟩
 · exact h
theorem fit_entered {sh : Sh} {s : TS} (h : s.Fit) (i : Nat) (e : El) (b : Nat) : (entered sh s i e b).Fit := by
 have h1 := fit_tagged (sh := sh) h i e b
 exact ⟨h1.vi, h1.tg, h1.fr⟩
theorem fit_holds {sh : Sh} {s : TS} (h : s.Fit) (at' i b : Nat) : (holds sh s at' i b).Fit := ⟨h.vi, h.tg, up_le h.fr (mad_le _ _ _) _⟩
end Go.Proofs.YtpgpjjkeginbbaaGreatDoor.Tree
namespace Go.Proofs.YtpgpjjkeginbbaaGreatDoor.Tree
open Go.RowKit Go.Proofs BigFrame
open HeapE (El VE)
set_option maxHeartbeats 4000000
set_option maxRecDepth 1000000
section
variable {w : World} {own : Nat → Prop} {L : Lay} {sh : Sh} {room : Nat} {s : TS}
theorem TIn.fields (h : TIn w own L sh room s) : w.cell? ⟨L.b, 0, none⟩ = some (.slice (some ⟨L.g, 0, none⟩) sh.n L.cap) ∧ w.cell? ⟨L.b, 1, none⟩ = some (.pointer (some ⟨L.hb, 0, none⟩)) ∧ w.cell? ⟨L.b, 2, none⟩ = some (.int .u64 (s.now : Nat)) ∧ w.cell? ⟨L.b, 3, none⟩ = some (.int .i64 (s.m : Nat)) ∧ w.cell? ⟨L.b, 4, none⟩ = some (.int .i64 (room : Nat)) ∧ (∀ j, w.frozen? ⟨L.b, j, none⟩ = false) := by
 have hb := h.blk
 exact ⟨hb.cellAt rfl, hb.cellAt rfl, hb.cellAt rfl, hb.cellAt rfl, hb.cellAt rfl, fun j => hb.free j⟩
theorem TIn.node (h : TIn w own L sh room s) {i : Nat} (hi : i < sh.n) : w.cell? ⟨L.g, i * 9, none⟩ = some (.int .i64 (sh.par i : Nat)) ∧ w.cell? ⟨L.g, i * 9 + 1, none⟩ = some (.int .i64 (sh.kind i : Nat)) ∧ w.cell? ⟨L.g, i * 9 + 2, none⟩ = some (.int .u64 (sh.wt i : Nat)) ∧ w.cell? ⟨L.g, i * 9 + 3, none⟩ = some (.int .u64 (sh.gap i : Nat)) ∧ w.cell? ⟨L.g, i * 9 + 4, none⟩ = some (.bool (sh.leaf i)) ∧ w.cell? ⟨L.g, i * 9 + 5, none⟩ = some (.pointer (some ⟨L.bs i, 0, none⟩)) ∧ w.cell? ⟨L.g, i * 9 + 6, none⟩ = some (.int .u64 (s.vi i : Nat)) ∧ w.cell? ⟨L.g, i * 9 + 7, none⟩ = some (.int .u64 (s.tg i : Nat)) ∧ w.cell? ⟨L.g, i * 9 + 8, none⟩ = some (.int .u64 (s.fr i : Nat)) :=
 ⟨(h.cell (j := 0) hi rfl).1, (h.cell (j := 1) hi rfl).1, (h.cell (j := 2) hi rfl).1, (h.cell (j := 3) hi rfl).1, (h.cell (j := 4) hi rfl).1, (h.cell (j := 5) hi rfl).1, (h.cell (j := 6) hi rfl).1, (h.cell (j := 7) hi rfl).1, (h.cell (j := 8) hi rfl).1⟩
theorem TIn.frozen (h : TIn w own L sh room s) {i j : Nat} (hi : i < sh.n) (hj : j < 9) : w.frozen? ⟨L.g, i * 9 + j, none⟩ = false := by
 obtain ⟨v, hv⟩ : ∃ v, (ncell L sh s i)[j]? = some v := ⟨(ncell L sh s i)[j]'(by rw [ncell_len]; exact hj), List.getElem?_eq_getElem _⟩
 exact (h.cell hi hv).2
end
/-- What rank starts with: the element in a block of its own. -/
theorem TIn.box {w : World} {own : Nat → Prop} {L : Lay} {sh : Sh} {room : Nat} {s : TS} (h : TIn w own L sh room s) (v : Array Value) (t : TypeId) : TIn (w.alloc (.cells v t)) own L sh room s ∧ Blk (w.alloc (.cells v t)) w.heap.size v t := ⟨h.old ((Upd.refl _ _).alloc _), Blk.new _ _ _⟩
abbrev ecell (x : Int) (a b c : Nat) : Array Value := #[.int .i64 x, .int .u32 a, .int .u32 b, .int .u64 c]
theorem rank_ok {w : World} {own : Nat → Prop} {L : Lay} {sh : Sh} {room : Nat} {s : TS} (h : TIn w own L sh room s) (hs : sh.Ok) (hf : s.Fit) {i : Nat} (hi : i < sh.n) (x : Nat) (hx : sh.leaf i = true ∨ x < sh.n) (a b c : Nat) (ha : a < 4294967296) (by' : Nat) (hb : by' ≤ 18446744073709551615) :
 Calls Tryz.prog 73 #[.pointer (some ⟨L.b, 0, none⟩), .pointer (some ⟨L.g, i * 9, none⟩), VE ((x : Nat), a, b, c), .int .u64 by'] w fun e w' => e = .returned (.int .u64 (rk sh s i ((x : Nat), a, b, c) : Nat)) ∧
  ∃ own', TIn w' own' L sh room (tagged sh s i ((x : Nat), a, b, c) by') ∧ Fol w own w' own' := by
 obtain ⟨kd, hkd⟩ : ∃ kd, sh.kind i = kd := ⟨_, rfl⟩
 obtain ⟨lf, hlf⟩ : ∃ lf, sh.leaf i = lf := ⟨_, rfl⟩
 have k1 := hs.k1 i hi
 have k3 := hs.k3 i hi
 have H := Lib.hid h
 obtain ⟨w0, hw0⟩ : ∃ w0, w0 = w.alloc (.cells (ecell x a b c) TE) := ⟨_, rfl⟩
 obtain ⟨h1, hB⟩ := h.box (ecell x a b c) TE
 rw [← hw0] at h1 hB
 have hU : Fol w own w0 own := (Fol.refl _ _).old (by rw [hw0]; exact (Upd.refl _ _).alloc _)
 obtain ⟨t0, -⟩ := h1.fields
 obtain ⟨c0, c1, c2, c3, c4, c5, c6, c7, c8⟩ := h1.node hi
 obtain ⟨b0, b1, b2, b3, z0, z1, z2, z3⟩ := cells4 hB
 rw [hkd] at c1 k1 k3
 rw [hlf] at c4
 have H1 := Lib.hid h1
 have HU := Lib.hid hU
 have HKD := Lib.hid hkd
 have HLF := Lib.hid hlf
 clear h h1 hB hU hkd hlf
 go_enter Tryz.func73, Tryz.ntmps73
 go_upto_region 1 with fail
 generalize w.alloc (.cells (ecell x a b c) TE) = w1 at hw0 ⊢
 subst hw0
 rcases (show kd = 1 ∨ kd = 2 ∨ kd = 3 by omega) with rfl | rfl | rfl
 · go_wp2_with fail
   go_ret
   refine ⟨?_, _, ?_, HU.out⟩
   · simp [rk, HKD.out]
   · simpa [tagged, HKD.out] using H1.out
 · cases lf with
   | true =>
     go_wp2_with fail
     go_ret
     refine ⟨?_, _, ?_, HU.out⟩
     · simp [rk, HKD.out, HLF.out]
     · simpa [tagged, HKD.out] using H1.out
   | false =>
     have hx2 : x < sh.n := hx.resolve_left (by rw [HLF.out]; exact Bool.false_ne_true)
     obtain ⟨d0, d1, d2, d3, d4, d5, d6, d7, d8⟩ := H1.out.node hx2
     go_wp2_with fail
     go_region
     all_goals
      go_wp2_with fail
      go_ret
      refine ⟨?_, _, ?_, (HU.out.old ((Upd.refl _ _).drew))⟩
      · simp [rk, HKD.out, HLF.out]
      · simpa [tagged, HKD.out] using H1.out.old ((Upd.refl _ _).drew)
 · cases lf with
   | true =>
     go_wp2_with fail
     go_ret
     refine ⟨?_, _, ?_, HU.out⟩
     · simp [rk, HKD.out, HLF.out]
     · simpa [tagged, HKD.out, HLF.out] using H1.out
   | false =>
     have hx2 : x < sh.n := hx.resolve_left (by rw [HLF.out]; exact Bool.false_ne_true)
     obtain ⟨d0, d1, d2, d3, d4, d5, d6, d7, d8⟩ := H1.out.node hx2
     have hv := hf.vi i
     have ht := hf.tg x
     have hwt := hs.wt x hx2
     obtain ⟨V, hV⟩ : ∃ V, s.vi i = V := ⟨_, rfl⟩
     obtain ⟨T, hT⟩ : ∃ T, s.tg x = T := ⟨_, rfl⟩
     obtain ⟨K, hK⟩ : ∃ K, sh.wt x = K := ⟨_, rfl⟩
     obtain ⟨R, hR⟩ : ∃ R, max V T = R := ⟨_, rfl⟩
     rw [hV] at c6 hv
     rw [hT] at d7 ht
     rw [hK] at d2 hwt
     have hR2 : max (V : Int) (T : Int) = (R : Int) := by omega
     have hR3 : R ≤ 18446744073709551615 := by omega
     have hR4 : (if (V : Int) < (T : Int) then (T : Int) else (V : Int)) = (R : Int) := by split <;> omega
     have hR5 : (if V < T then (T : Int) else (V : Int)) = (R : Int) := by split <;> omega
     have HR := Lib.hid hR
     have HV := Lib.hid hV
     have HT := Lib.hid hT
     have HK := Lib.hid hK
     have HD := H1.out.old ((Upd.refl Nowhere _).drewN 2)
     have HM := fun u => Lib.hid (Sat.sat_muladd R K by' hR3 hwt hb u)
     clear hR hV hT hK hf
     go_wp2_with fail
     go_region
     all_goals
      go_upto_region 10 with fail
     all_goals
      go_region
     all_goals
      go_upto_region 11 with fail
      have h2 : TIn w0.drew.drew own L sh room s := H1.out.old (((Upd.refl _ _).drew).drew)
      have hu2 : Fol w own w0.drew.drew own := HU.out.old (((Upd.refl _ _).drew).drew)
      clear c0 c1 c2 c3 c4 c5 c6 c7 c8 d0 d1 d2 d3 d4 d5 d6 d7 d8 HD
      generalize w0.drew.drew = w2 at *
      obtain ⟨-, -, d2, -, -, -, -, d7, -⟩ := h2.node hx2
      rw [HK.out] at d2
      have zf := h2.frozen hx2 (show 7 < 9 by omega)
      have H2 := Lib.hid h2
      have HU2 := Lib.hid hu2
      clear h2 hu2
      go_wp2_with (refine (HM _).out.mono ?_; rintro e w' ⟨rfl, rfl⟩)
      go_ret
      obtain ⟨own', g1, g2⟩ := H2.out.set hx2 (show 7 < 9 by omega) (.int .u64 (min (R + K * by') 18446744073709551615 : Nat)) sh (tagged sh s i ((x : Nat), a, b, c) by') rfl (fun k => by
       rw [tagged, if_pos ⟨HKD.out, HLF.out⟩]
       by_cases e : k = x
       · subst e
         rw [if_pos rfl]
         simp [ncell, up, mad, HV.out, HT.out, HR.out, HK.out]
       · rw [if_neg e]
         simp [ncell, up, e]) (by simp [tcell, tagged_now, tagged_m]) (by rw [tagged_wn, tagged_c, tagged_H]) (by funext k; simp [qs, tagged_c, tagged_q])
      refine ⟨?_, own', g1, HU2.out.trans g2⟩
      simp [rk, HKD.out, HLF.out, HV.out, HT.out, HR.out]
end Go.Proofs.YtpgpjjkeginbbaaGreatDoor.Tree
namespace Go.Proofs.YtpgpjjkeginbbaaGreatDoor.Tree
open Go.RowKit Go.Proofs BigFrame
open HeapE (El VE Hq q_push)
open WheelR (Ri Wq w_add)
open Cal (ins)
set_option maxHeartbeats 4000000
set_option maxRecDepth 1000000
abbrev TR : TypeId := 105
section
variable {w w1 : World} {own own1 : Nat → Prop} {L : Lay} {sh : Sh} {room : Nat} {s : TS}
theorem enter_ok {i : Nat} {e : El} {b : Nat} (h : TIn w own L sh room (tagged sh s i e b)) (hi : i < sh.n) (hl : (s.q i).length < room) (hc : s.c < 18446744073709551615) :
 Calls Tryz.prog 72 #[.pointer (some ⟨L.bs i, 0, none⟩), .int .u64 (rk sh s i e : Nat), VE e] w fun r w' => r = .returned (.bool true) ∧
  ∃ own', TIn w' own' L sh room (entered sh s i e b) ∧ Fol w own w' own' := by
 obtain ⟨o, h1, h2, h3⟩ := h.heap hi
 rw [tagged_q, tagged_c] at h1
 refine (q_push h1 hl hc (rk sh s i e) e).mono ?_
 rintro r w' ⟨rfl, ⟨own', g1, g2⟩, g3⟩
 obtain ⟨o2, k1, k2⟩ := h3 w' own' (s.c + 1) _ (by rw [tagged_c]; omega) g1 ⟨g2, g3⟩
 rw [tagged_q] at k1
 exact ⟨rfl, o2, k1, k2⟩
theorem hold_ok (h : TIn w own L sh room s) (hl : s.H.length < room) (hc : s.c < 18446744073709551615) (t : Nat) (ht : t ≤ 18446744073709551615) (i b : Nat) :
 Calls Tryz.prog 74 #[.pointer (some ⟨L.hb, 0, none⟩), .int .u64 (t : Nat), .agg #[.int .i64 (i : Nat), .int .u64 (b : Nat)]] w fun r w' => r = .returned (.bool true) ∧
  ∃ own', TIn w' own' L sh room { s with H := ins t ((i, b) : Ri) s.H, c := s.c + 1 } ∧ Fol w own w' own' := by
 obtain ⟨o, h1, h2, h3⟩ := h.wheel
 refine (w_add h1 hl hc t ht i b).mono ?_
 rintro r w' ⟨rfl, own', g1, g2⟩
 obtain ⟨o2, k1, k2⟩ := h3 w' own' s.wn (s.c + 1) _ (by omega) g1 g2
 exact ⟨rfl, o2, k1, k2⟩
/-- What is held fast while an element comes in. -/
theorem fast {i B : Nat} {x : Int} {a b c : Nat} (hi : i < sh.n) (hB : Blk w B (ecell x a b c) TE) (ho : ¬ own B) (h1 : TIn w1 own1 L sh room s) (hF : Fol w own w1 own1) :
 w1.cell? ⟨L.g, i * 9 + 5, none⟩ = some (.pointer (some ⟨L.bs i, 0, none⟩)) ∧ w1.cell? ⟨B, 0, none⟩ = some (.int .i64 x) ∧ w1.cell? ⟨B, 1, none⟩ = some (.int .u32 a) ∧ w1.cell? ⟨B, 2, none⟩ = some (.int .u32 b) ∧ w1.cell? ⟨B, 3, none⟩ = some (.int .u64 c) := by
 obtain ⟨-, -, -, -, -, c5, -, -, -⟩ := h1.node hi
 obtain ⟨b0, b1, b2, b3, -, -, -, -⟩ := cells4 (hB.kept hF.upd ho)
 exact ⟨c5, b0, b1, b2, b3⟩
theorem fast2 {B : Nat} {i b : Nat} (hB : Blk w B #[.int .i64 (i : Nat), .int .u64 (b : Nat)] TR) (ho : ¬ own B) (h1 : TIn w1 own1 L sh room s) (hF : Fol w own w1 own1) :
 w1.cell? ⟨L.b, 1, none⟩ = some (.pointer (some ⟨L.hb, 0, none⟩)) ∧ w1.cell? ⟨B, 0, none⟩ = some (.int .i64 (i : Nat)) ∧ w1.cell? ⟨B, 1, none⟩ = some (.int .u64 (b : Nat)) := by
 obtain ⟨-, t1, -⟩ := h1.fields
 obtain ⟨b0, b1, -⟩ := cells2 (hB.kept hF.upd ho)
 exact ⟨t1, b0, b1⟩
theorem come_ok (hs : sh.Ok) : ∀ (f : Nat) {w : World} {own : Nat → Prop} {s : TS}, TIn w own L sh room s → s.Fit → ∀ {i : Nat}, i < f → i < sh.n → (∀ v, v ≤ i → (s.q v).length < room) → s.H.length < room → s.c + f + 2 < 18446744073709551615 →
 ∀ (x : Nat), sh.leaf i = true ∨ x < sh.n → ∀ (a b c : Nat), a < 4294967296 → ∀ (t : Nat), t ≤ 18446744073709551615 → ∀ (by' : Nat), by' ≤ 18446744073709551615 →
 Calls Tryz.prog 40 #[.pointer (some ⟨L.b, 0, none⟩), .int .u64 (t : Nat), .int .i64 (i : Nat), VE ((x : Nat), a, b, c), .int .u64 (by' : Nat)] w fun e w' => e = .returned (.tuple #[]) ∧
  ∃ own', TIn w' own' L sh room (come sh f s t i ((x : Nat), a, b, c) by') ∧ Fol w own w' own'
 | 0, _, _, _, _, _, i, h0, _, _, _, _, _, _, _, _, _, _, _, _, _, _ => absurd h0 (Nat.not_lt_zero _)
 | f + 1, w, own, s, h, hf, i, hif, hi, hrm, hH, hc, x, hx, a, b, c, ha, t, ht, by', hb => by
   have IH := fun {w : World} {own : Nat → Prop} {s : TS} (h1 : TIn w own L sh room s) => Lib.hid (come_ok hs f h1)
   obtain ⟨e0, he0⟩ : ∃ e0 : El, (((x : Nat) : Int), a, b, c) = e0 := ⟨_, rfl⟩
   obtain ⟨w0, hw0⟩ : ∃ w0, w0 = w.alloc (.cells (ecell x a b c) TE) := ⟨_, rfl⟩
   have hno : ¬ own w.heap.size := fun h9 => absurd (h.lt h9) (Nat.lt_irrefl _)
   obtain ⟨h1, hB⟩ := h.box (ecell x a b c) TE
   rw [← hw0] at h1 hB
   have hU : Fol w own w0 own := (Fol.refl _ _).old (by rw [hw0]; exact (Upd.refl _ _).alloc _)
   obtain ⟨t0, -⟩ := h1.fields
   obtain ⟨d0, d1, d2, d3, d4, d5, d6, d7, d8⟩ := h1.node hi
   obtain ⟨b0, b1, b2, b3, z0, z1, z2, z3⟩ := cells4 hB
   obtain ⟨B, hBB⟩ : ∃ B, w.heap.size = B := ⟨_, rfl⟩
   rw [hBB] at hno hB b0 b1 b2 b3 z0 z1 z2 z3
   obtain ⟨s3, hs3⟩ : ∃ s3, entered sh s i e0 by' = s3 := ⟨_, rfl⟩
   have hRK := fun (u : World) (o : Nat → Prop) (hu : TIn u o L sh room s) => Lib.hid (rank_ok hu hs hf hi x hx a b c ha by' hb)
   have hPU := fun (u : World) (o : Nat → Prop) (hu : TIn u o L sh room (tagged sh s i e0 by')) => Lib.hid (enter_ok hu hi (hrm i (Nat.le_refl _)) (by omega))
   have hf3 : s3.Fit := hs3 ▸ fit_entered hf i e0 by'
   have hc3 : s3.c = s.c + 1 := hs3 ▸ rfl
   have hH3 : s3.H = s.H := hs3 ▸ tagged_H ..
   have hq3 : ∀ v, v < i → (s3.q v).length < room := fun v hv => by
    rw [← hs3]
    show (up s.q i _ v).length < room
    rw [up_off _ (by omega)]; exact hrm v (by omega)
   rw [he0] at hRK
   have hVE0 : VE e0 = .agg #[.int .i64 (x : Nat), .int .u32 a, .int .u32 b, .int .u64 c] := by rw [← he0]
   rw [hVE0] at hRK hPU
   have hCM : come sh (f + 1) s t i ((x : Nat), a, b, c) by' = if i = 0 then s3 else if sh.gap i = 0 then come sh f s3 t (sh.par i) (chi i) by' else holds sh s3 t i by' := by rw [he0, ← hs3]; rfl
   have HCM := Lib.hid hCM
   rw [hs3] at hPU
   have H1 := Lib.hid h1
   have HU := Lib.hid hU
   have HB := Lib.hid hB
   have HNO := Lib.hid hno
   have HF3 := Lib.hid hf3
   have HC3 := Lib.hid hc3
   have HH3 := Lib.hid hH3
   have HQ3 := Lib.hid hq3
   have HS3 := Lib.hid hs3
   have HRM := Lib.hid hrm
   have HHR := Lib.hid hH
   have HC := Lib.hid hc
   have HE0 := Lib.hid he0
   clear hCM hVE0 he0
   clear h h1 hB hU hno hf3 hc3 hH3 hq3 hs3 hrm hH hc hf hx
   go_enter Tryz.func40, Tryz.ntmps40
   go_upto_region 1 with fail
   generalize w.alloc (.cells (ecell x a b c) TE) = wz at hw0 ⊢
   subst hw0
   try simp only [hBB]
   go_upto_region 2 with fail
   have HD1 := Lib.hid (H1.out.old ((Upd.refl Nowhere w0).drew))
   have F0 := Lib.hid ((Fol.refl w0 own).old ((Upd.refl Nowhere w0).drew))
   have hS0 := fast hi HB.out HNO.out HD1.out F0.out
   clear t0 d0 d1 d2 d3 d4 d5 d6 d7 d8 b0 b1 b2 b3 z0 z1 z2 z3
   go_region_held3 (fun w' => w'.cell? ⟨L.g, i * 9 + 5, none⟩ = some (.pointer (some ⟨L.bs i, 0, none⟩)) ∧ w'.cell? ⟨B, 0, none⟩ = some (.int .i64 (x : Nat)) ∧ w'.cell? ⟨B, 1, none⟩ = some (.int .u32 a) ∧ w'.cell? ⟨B, 2, none⟩ = some (.int .u32 b) ∧ w'.cell? ⟨B, 3, none⟩ = some (.int .u64 c)) (first | exact hS0 | assumption) (first
    | (go_at_call 73; refine (hRK _ _ HD1.out).out.mono ?_; rintro e w11 ⟨rfl, own11, h11, f11⟩; have g11 := F0.out.trans f11; have hS11 := fast hi HB.out HNO.out h11 g11)
    | (go_at_call 72; refine (hPU _ _ h11).out.mono ?_; rintro e w12 ⟨rfl, own12, h12, f12⟩; have g12 := g11.trans f12; have hS12 := fast hi HB.out HNO.out h12 g12))
   all_goals
    have G12 := Lib.hid (HU.out.trans g12)
    have hno2 : ¬ own12 w12.heap.size := fun h9 => absurd (h12.lt h9) (Nat.lt_irrefl _)
    obtain ⟨h13, hB3⟩ := h12.box #[.int .i64 (i : Nat), .int .u64 by'] TR
    obtain ⟨w13, hw13⟩ : ∃ w13, w13 = w12.alloc (.cells #[.int .i64 (i : Nat), .int .u64 by'] TR) := ⟨_, rfl⟩
    have g13 : Fol w12 own12 w13 own12 := (Fol.refl _ _).old (by rw [hw13]; exact (Upd.refl _ _).alloc _)
    rw [← hw13] at h13 hB3
    have G13 := Lib.hid (G12.out.trans g13)
    have H13 := Lib.hid h13
    have HB3 := Lib.hid hB3
    have HNO2 := Lib.hid hno2
    clear h12 g12 g13 hS0 hS11 hS12 h11 g11 f11 f12 h13 hB3 hno2
    go_upto_region 7 with fail
    generalize w12.alloc (.cells #[.int .i64 (i : Nat), .int .u64 by'] TR) = wz at hw13 ⊢
    subst hw13
    obtain ⟨t0, t1, -⟩ := H13.out.fields
    obtain ⟨d0, d1, d2, d3, d4, d5, d6, d7, d8⟩ := H13.out.node hi
    obtain ⟨BU, hBU⟩ : ∃ BU, w12.heap.size = BU := ⟨_, rfl⟩
    rw [hBU] at HB3 HNO2
    try simp only [hBU]
    clear HD1 F0 H1 HU HB HNO hRK hPU HRM HE0 HS3
    by_cases h0 : i = 0
    · have q0 : ((i : Int) == 0) = true := by simp; omega
      have HE := Lib.hid h0
      rw [if_pos h0] at HCM
      clear h0
      go_wp2_with fail
      exact bodyPost_end (results_none rfl _ _ _) rfl ⟨rfl, own12, by rw [HCM.out]; exact H13.out, G13.out⟩
    · have q0 : ((i : Int) == 0) = false := by simp; omega
      have HE := Lib.hid h0
      rw [if_neg h0] at HCM
      have hpar := hs.par i hi h0
      by_cases hg : sh.gap i = 0
      · rw [if_pos hg] at HCM
        rw [hg] at d3
        have hih := (IH H13.out).out HF3.out (show sh.par i < f by omega) (by omega) (fun v hv => HQ3.out v (by omega)) (by rw [HH3.out]; exact HHR.out) (by rw [HC3.out]; have := HC.out; omega) i (.inr hi) 0 0 0 (by omega) t ht by' hb
        have HIH := Lib.hid hih
        clear h0 hih hg
        go_wp2_with fail
        refine HIH.out.mono ?_
        rintro e w14 ⟨rfl, own14, h14, f14⟩
        go_wp2_with fail
        exact bodyPost_end (results_none rfl _ _ _) rfl ⟨rfl, own14, by rw [HCM.out]; exact h14, G13.out.trans f14⟩
      · rw [if_neg hg] at HCM
        obtain ⟨G, hG⟩ : ∃ G, sh.gap i = G := ⟨_, rfl⟩
        obtain ⟨Fr, hFr⟩ : ∃ Fr, s3.fr i = Fr := ⟨_, rfl⟩
        obtain ⟨M, hM⟩ : ∃ M, max t Fr = M := ⟨_, rfl⟩
        have hGle : G ≤ 18446744073709551615 := hG ▸ hs.gap i hi
        have hFle : Fr ≤ 18446744073709551615 := hFr ▸ HF3.out.fr i
        rw [hG] at hg d3
        rw [hFr] at d8
        have g0 : ((G : Int) == 0) = false := by simp; omega
        have hM2 : max (t : Int) (Fr : Int) = (M : Int) := by omega
        have hM4 : (if (t : Int) < (Fr : Int) then (Fr : Int) else (t : Int)) = (M : Int) := by split <;> omega
        have hM5 : (if t < Fr then (Fr : Int) else (t : Int)) = (M : Int) := by split <;> omega
        have hM3 : M ≤ 18446744073709551615 := by omega
        have zf := H13.out.frozen hi (show 8 < 9 by omega)
        obtain ⟨own4, h4, f4⟩ := H13.out.set hi (show 8 < 9 by omega) (.int .u64 (min (M + G * by') 18446744073709551615 : Nat)) sh { s3 with fr := up s3.fr i (mad M G by') } rfl (fun k => by
         by_cases e : k = i
         · subst e
           rw [if_pos rfl]
           simp [ncell, up, mad]
         · rw [if_neg e]
           simp [ncell, up, e]) rfl rfl rfl
        have hCM : holds sh s3 t i by' = { ({ s3 with fr := up s3.fr i (mad M G by') } : TS) with H := ins M ((i, by') : Ri) s3.H, c := s3.c + 1 } := by
         unfold holds; rw [hFr, hM, hG]
        have HCM2 := Lib.hid (HCM.out.trans hCM)
        have HM := fun u => Lib.hid (Sat.sat_muladd M G by' hM3 hGle hb u)
        have HG := Lib.hid hg
        have H4 := Lib.hid h4
        have F4 := Lib.hid (G13.out.trans f4)
        have hno5 : ¬ own4 BU := fun h9 => (f4.at_ _ h9).elim (fun h8 => HNO2.out h8) (fun h8 => absurd HB3.out.lt (Nat.not_lt.2 h8))
        have hB5 := HB3.out.kept f4.upd (fun h9 => HNO2.out h9)
        have HB5 := Lib.hid hB5
        have HNO5 := Lib.hid hno5
        clear hG hFr hM hCM h4 f4 hno5 hB5 h0 hg
        go_wp2_with fail
        refine (HM _).out.mono ?_
        rintro e w' ⟨rfl, rfl⟩
        go_upto_region 6 with fail
        generalize w13.setCell ⟨L.g, i * 9 + 8, none⟩ (.int .u64 (min (M + G * by') 18446744073709551615 : Nat)) = w4 at *
        have hAD := fun (u : World) (o : Nat → Prop) (hu : TIn u o L sh room { s3 with fr := up s3.fr i (mad M G by') }) => Lib.hid (hold_ok hu (show s3.H.length < room by rw [HH3.out]; exact HHR.out) (show s3.c < _ by rw [HC3.out]; have := HC.out; omega) M hM3 i by')
        have HD5 := Lib.hid (H4.out.old ((Upd.refl Nowhere w4).drew))
        have F5 := Lib.hid ((Fol.refl w4 own4).old ((Upd.refl Nowhere w4).drew))
        have hS0 := fast2 HB5.out HNO5.out HD5.out F5.out
        clear t0 t1 d0 d1 d2 d3 d4 d5 d6 d7 d8 zf hM2 hM4 hM5 HM
        go_region_held3 (fun w' => w'.cell? ⟨L.b, 1, none⟩ = some (.pointer (some ⟨L.hb, 0, none⟩)) ∧ w'.cell? ⟨BU, 0, none⟩ = some (.int .i64 (i : Nat)) ∧ w'.cell? ⟨BU, 1, none⟩ = some (.int .u64 by')) (first | exact hS0 | assumption) (first
         | (go_at_call 74; refine (hAD _ _ HD5.out).out.mono ?_; rintro e w15 ⟨rfl, own15, h15, f15⟩; have g15 := F5.out.trans f15; have hS15 := fast2 HB5.out HNO5.out h15 g15))
        all_goals
         go_wp2_with fail
         exact bodyPost_end (results_none rfl _ _ _) rfl ⟨rfl, own15, by rw [HCM2.out]; exact h15, F4.out.trans g15⟩
end
end Go.Proofs.YtpgpjjkeginbbaaGreatDoor.Tree
namespace Go.Proofs.YtpgpjjkeginbbaaGreatDoor.Tree
open HeapE (El VE)
open WheelR (Ri)
open Cal (ins Rises ins_mem ins_len ins_rises ins_behind)
theorem ins_perm {α : Type} (r : Nat) (x : α) (l : List (Nat × α)) : (ins r x l).Perm ((r, x) :: l) := by
 induction l with
 | nil => exact List.Perm.refl _
 | cons b t ih =>
   unfold ins
   split
   · exact List.Perm.refl _
   · exact (ih.cons b).trans (List.Perm.swap (r, x) b t)
/-- How often a child stands in a list. -/
def cntE (v : Nat) (l : List (Nat × El)) : Nat := l.countP (fun a => decide (a.2.1 = (v : Int)))
def cntH (v : Nat) (l : List (Nat × Ri)) : Nat := l.countP (fun a => decide (a.2.1 = v))
def cntL (v : Nat) (l : List (Nat × Ri)) : Nat := l.countP (fun a => decide (0 < a.2.1 ∧ a.2.1 ≤ v))
theorem cntE_cons (v : Nat) (a : Nat × El) (l : List (Nat × El)) : cntE v (a :: l) = cntE v l + if a.2.1 = (v : Int) then 1 else 0 := by
 unfold cntE; rw [List.countP_cons]; simp
theorem cntH_cons (v : Nat) (a : Nat × Ri) (l : List (Nat × Ri)) : cntH v (a :: l) = cntH v l + if a.2.1 = v then 1 else 0 := by
 unfold cntH; rw [List.countP_cons]; simp
theorem cntE_ins (v r : Nat) (e : El) (l : List (Nat × El)) : cntE v (ins r e l) = cntE v l + if e.1 = (v : Int) then 1 else 0 := by
 rw [← cntE_cons v (r, e) l]; exact (ins_perm r e l).countP_eq _
theorem cntH_ins (v r : Nat) (e : Ri) (l : List (Nat × Ri)) : cntH v (ins r e l) = cntH v l + if e.1 = v then 1 else 0 := by
 rw [← cntH_cons v (r, e) l]; exact (ins_perm r e l).countP_eq _
theorem cntE_le (v : Nat) (l : List (Nat × El)) : cntE v l ≤ l.length := List.countP_le_length
theorem cntL_le (v : Nat) (l : List (Nat × Ri)) : cntL v l ≤ l.length := List.countP_le_length
theorem cntL_add {p v : Nat} (hp : p < v) (l : List (Nat × Ri)) : cntL p l + cntH v l ≤ cntL v l := by
 induction l with
 | nil => exact Nat.le_refl _
 | cons a l ih =>
   unfold cntL cntH at ih ⊢
   rw [List.countP_cons, List.countP_cons, List.countP_cons]
   simp only [decide_eq_true_eq]
   have h1 : (if 0 < a.2.1 ∧ a.2.1 ≤ p then 1 else 0) + (if a.2.1 = v then 1 else 0) ≤ (if 0 < a.2.1 ∧ a.2.1 ≤ v then 1 else 0) := by
    split <;> split <;> split <;> omega
   omega
theorem meas_ins (r : Nat) (e : Ri) (l : List (Nat × Ri)) : meas (ins r e l) = meas l + (e.1 + 1) := by
 unfold meas
 rw [((ins_perm r e l).map _).sum_nat, List.map_cons, List.sum_cons]
 exact Nat.add_comm _ _
theorem meas_cons (a : Nat × Ri) (l : List (Nat × Ri)) : meas (a :: l) = a.2.1 + 1 + meas l := by
 unfold meas; rw [List.map_cons, List.sum_cons]
/-- A packet that may be. -/
def PK (e : El) : Prop := e.1 = 0 ∧ e.2.1 < 4294967296 ∧ e.2.2.1 < 4294967296 ∧ e.2.2.2 ≤ 65535
/-- How often a node waits in its parent, or is held: as often as something waits in it; but one more waits in x. -/
structure Bal (sh : Sh) (s : TS) (x : Nat) : Prop where
 cnt : ∀ v, v < sh.n → v ≠ 0 → (s.q v).length = cntE v (s.q (sh.par v)) + cntH v s.H + if v = x then 1 else 0
 inn : ∀ i, i < sh.n → sh.leaf i = false → ∀ a ∈ s.q i, ∃ c, c < sh.n ∧ c ≠ 0 ∧ sh.par c = i ∧ a.2 = chi c
 lf : ∀ i, i < sh.n → sh.leaf i = true → ∀ a ∈ s.q i, PK a.2
 rnk : ∀ i, i < sh.n → ∀ a ∈ s.q i, a.1 ≤ 18446744073709551615
 hn : ∀ a ∈ s.H, a.2.1 < sh.n ∧ a.2.1 ≠ 0 ∧ a.2.2 ≤ 65535 ∧ s.wn ≤ a.1 ∧ a.1 ≤ 18446744073709551615
 hr : Rises s.H
 fit : s.Fit
 now : s.wn ≤ s.now ∧ s.now ≤ 18446744073709551615
/-- So many are in the tree. -/
def Tot (s : TS) (t : Nat) : Prop := s.m = (s.q 0).length + s.H.length + t
section
variable {sh : Sh} {s : TS} {x : Nat}
theorem Bal.le (h : Bal sh s x) (hs : sh.Ok) : ∀ v, v < sh.n → (s.q v).length ≤ (s.q 0).length + cntL v s.H + if x ≠ 0 ∧ x ≤ v then 1 else 0 := by
 intro v
 induction v using Nat.strongRecOn with
 | ind v ih =>
   intro hv
   by_cases h0 : v = 0
   · subst h0; omega
   · have h1 := h.cnt v hv h0
     have h2 := hs.par v hv h0
     have h3 := ih _ h2 (by omega)
     have h4 := cntE_le v (s.q (sh.par v))
     have h5 := cntL_add h2 s.H
     have h6 : (if v = x then 1 else 0) + (if x ≠ 0 ∧ x ≤ sh.par v then 1 else 0) ≤ (if x ≠ 0 ∧ x ≤ v then 1 else 0) := by
      split <;> split <;> split <;> omega
     omega
/-- There is room. -/
theorem Bal.room (h : Bal sh s x) (hs : sh.Ok) (ht : Tot s 1) {room i : Nat} (hm : s.m ≤ room) (hx : x = 0 ∨ i < x) : ∀ v, v ≤ i → v < sh.n → (s.q v).length < room := by
 intro v hv hn
 have h1 := h.le hs v hn
 have h2 := cntL_le v s.H
 unfold Tot at ht
 rw [if_neg (by omega)] at h1
 omega
theorem rk_le (h : Bal sh s x) (hs : sh.Ok) {i : Nat} {e : El} (he : (sh.leaf i = true ∧ PK e) ∨ (∃ c, c < sh.n ∧ e = chi c)) : rk sh s i e ≤ 18446744073709551615 := by
 have hv := h.fit.vi i
 have ht := h.fit.tg e.1.toNat
 unfold rk
 rcases he with ⟨hl, hp⟩ | ⟨c, hc, rfl⟩
 · have h1 := hp.2.1
   have h2 := hp.2.2.2
   rw [if_pos hl, if_pos hl]
   split
   · omega
   · split <;> omega
 · have hw := hs.wt c hc
   have ht : s.tg c ≤ 18446744073709551615 := h.fit.tg c
   show (if sh.kind i = 1 then 0 else if sh.kind i = 2 then (if sh.leaf i = true then 0 else sh.wt c) else (if sh.leaf i = true then 0 else max (s.vi i) (s.tg c))) ≤ _
   split
   · omega
   · split <;> split <;> omega
/-- What may come into a node. -/
def Comes (sh : Sh) (x i : Nat) (e : El) : Prop := (x = 0 ∧ sh.leaf i = true ∧ PK e) ∨ (x ≠ 0 ∧ x < sh.n ∧ sh.par x = i ∧ e = chi x)
theorem entered_H (i : Nat) (e : El) (b : Nat) : (entered sh s i e b).H = s.H := tagged_H sh s i e b
theorem entered_wn (i : Nat) (e : El) (b : Nat) : (entered sh s i e b).wn = s.wn := tagged_wn sh s i e b
theorem entered_now (i : Nat) (e : El) (b : Nat) : (entered sh s i e b).now = s.now := tagged_now sh s i e b
theorem entered_m (i : Nat) (e : El) (b : Nat) : (entered sh s i e b).m = s.m := tagged_m sh s i e b
theorem entered_q (i : Nat) (e : El) (b : Nat) : (entered sh s i e b).q = up s.q i (ins (rk sh s i e) e (s.q i)) := rfl
theorem entered_c (i : Nat) (e : El) (b : Nat) : (entered sh s i e b).c = s.c + 1 := rfl
theorem Comes.lt (hs : sh.Ok) {i : Nat} {e : El} (he : Comes sh x i e) : x = 0 ∨ i < x := by
 rcases he with ⟨h, _⟩ | ⟨h1, h2, h3, _⟩
 · exact .inl h
 · exact .inr (h3 ▸ hs.par x h2 h1)
theorem entered_bal (hs : sh.Ok) (h : Bal sh s x) {i : Nat} (hi : i < sh.n) {e : El} (he : Comes sh x i e) (b : Nat) : Bal sh (entered sh s i e b) i := by
 have hrk := rk_le h hs (i := i) (e := e) (he.elim (fun h => .inl h.2) (fun h => .inr ⟨x, h.2.1, h.2.2.2⟩))
 refine ⟨fun v hv h0 => ?_, fun j hj hl a ha => ?_, fun j hj hl a ha => ?_, fun j hj a ha => ?_, ?_, ?_, fit_entered h.fit i e b, ?_⟩
 · rw [entered_q, entered_H]
   have h1 := h.cnt v hv h0
   have h2 := hs.par v hv h0
   by_cases e1 : v = i
   · subst e1
     rw [up_at, ins_len, up_off _ (by omega), if_pos rfl]
     rw [if_neg (by rcases he with ⟨h9, _⟩ | ⟨h9, h8, h7, _⟩ <;> first | omega | (have := hs.par x h8 h9; omega))] at h1
     omega
   · rw [up_off _ e1, if_neg e1]
     by_cases e2 : sh.par v = i
     · rw [e2, up_at, cntE_ins]
       rw [e2] at h1
       rcases he with ⟨_, h8, _⟩ | ⟨h9, h8, h7, rfl⟩
       · exact absurd e2 ((hs.leaf i hi).1 h8 v hv h0)
       · have e3 : ((chi x).1 = (v : Int)) ↔ v = x := ⟨fun h => by have : ((x : Nat) : Int) = v := h; omega, fun h => by subst h; rfl⟩
         simp only [e3]
         omega
     · rw [up_off _ e2]
       rw [if_neg (by rcases he with ⟨h9, _⟩ | ⟨_, _, h7, _⟩ <;> first | omega | (intro h9; subst h9; exact e2 h7))] at h1
       omega
 · rw [entered_q] at ha
   by_cases e1 : j = i
   · subst e1
     rw [up_at] at ha
     rcases ins_mem.1 ha with rfl | ha
     · rcases he with ⟨_, h8, _⟩ | ⟨h9, h8, h7, h6⟩
       · rw [hl] at h8; cases h8
       · exact ⟨x, h8, h9, h7, h6⟩
     · exact h.inn j hj hl a ha
   · rw [up_off _ e1] at ha
     exact h.inn j hj hl a ha
 · rw [entered_q] at ha
   by_cases e1 : j = i
   · subst e1
     rw [up_at] at ha
     rcases ins_mem.1 ha with rfl | ha
     · rcases he with ⟨_, _, h8⟩ | ⟨h9, h8, h7, h6⟩
       · exact h8
       · have := (hs.inner h8 h9).2; rw [h7, hl] at this; cases this
     · exact h.lf j hj hl a ha
   · rw [up_off _ e1] at ha
     exact h.lf j hj hl a ha
 · rw [entered_q] at ha
   by_cases e1 : j = i
   · subst e1
     rw [up_at] at ha
     rcases ins_mem.1 ha with rfl | ha
     · exact hrk
     · exact h.rnk j hj a ha
   · rw [up_off _ e1] at ha
     exact h.rnk j hj a ha
 · rw [entered_H, entered_wn]; exact h.hn
 · rw [entered_H]; exact h.hr
 · rw [entered_wn, entered_now]; exact h.now
theorem holds_bal (h : Bal sh s x) (hx : x ≠ 0) (hi : x < sh.n) {t b : Nat} (hb : b ≤ 65535) (h1 : s.wn ≤ t) (h2 : t ≤ 18446744073709551615) : Bal sh (holds sh s t x b) 0 := by
 have hf := h.fit.fr x
 refine ⟨fun v hv h0 => ?_, h.inn, h.lf, h.rnk, fun a ha => ?_, ins_rises h.hr, fit_holds h.fit _ _ _, h.now⟩
 · have h3 := h.cnt v hv h0
   show (s.q v).length = cntE v (s.q (sh.par v)) + cntH v (ins _ (x, b) s.H) + _
   rw [cntH_ins, if_neg h0]
   have e3 : ((x, b) : Ri).1 = v ↔ v = x := ⟨fun h => h.symm, fun h => h.symm⟩
   simp only [e3]
   omega
 · rcases ins_mem.1 ha with rfl | ha
   · exact ⟨hi, hx, hb, by show s.wn ≤ max t (s.fr x); omega, by show max t (s.fr x) ≤ _; omega⟩
   · exact h.hn a ha
/-- What coming leaves. -/
structure Came (s s' : TS) (i : Nat) : Prop where
 len : (s'.q 0).length + s'.H.length = (s.q 0).length + s.H.length + 1
 wn : s'.wn = s.wn
 now : s'.now = s.now
 m : s'.m = s.m
 c0 : s.c ≤ s'.c
 c1 : s'.c ≤ s.c + i + 2
 me : meas s'.H ≤ meas s.H + i + 1
theorem come_bal (hs : sh.Ok) : ∀ (f : Nat) {s : TS} {x i : Nat} {e : El} {t b : Nat}, i < f → Bal sh s x → i < sh.n → Comes sh x i e → s.wn ≤ t → t ≤ 18446744073709551615 → b ≤ 65535 → Bal sh (come sh f s t i e b) 0 ∧ Came s (come sh f s t i e b) i
 | 0, _, _, _, _, _, _, h, _, _, _, _, _, _ => absurd h (Nat.not_lt_zero _)
 | f + 1, s, x, i, e, t, b, hlt, h, hi, he, h1, h2, hb => by
   have h3 := entered_bal hs h hi he b
   unfold come
   by_cases h0 : i = 0
   · rw [if_pos h0]
     subst h0
     refine ⟨h3, ?_, entered_wn .., entered_now .., entered_m .., ?_, ?_, ?_⟩
     · rw [entered_q, entered_H, up_at, ins_len]; omega
     · rw [entered_c]; omega
     · rw [entered_c]; omega
     · rw [entered_H]; omega
   · rw [if_neg h0]
     have h4 := hs.par i hi h0
     by_cases hg : sh.gap i = 0
     · rw [if_pos hg]
       obtain ⟨h5, h6⟩ := come_bal hs f (s := entered sh s i e b) (x := i) (i := sh.par i) (e := chi i) (t := t) (b := b) (by omega) h3 (by omega) (.inr ⟨h0, hi, rfl, rfl⟩) (by rw [entered_wn]; exact h1) h2 hb
       refine ⟨h5, ?_, h6.wn.trans (entered_wn ..), h6.now.trans (entered_now ..), h6.m.trans (entered_m ..), ?_, ?_, ?_⟩
       · rw [h6.len, entered_q, entered_H, up_off _ (by omega)]
       · have := h6.c0; rw [entered_c] at this; omega
       · have := h6.c1; rw [entered_c] at this; omega
       · have := h6.me; rw [entered_H] at this; omega
     · rw [if_neg hg]
       refine ⟨holds_bal h3 h0 hi hb (by rw [entered_wn]; exact h1) h2, ?_, entered_wn .., entered_now .., entered_m .., ?_, ?_, ?_⟩
       · show ((entered sh s i e b).q 0).length + (ins _ _ (entered sh s i e b).H).length = _
         rw [ins_len, entered_q, entered_H, up_off _ (by omega)]; omega
       · show s.c ≤ s.c + 1 + 1; omega
       · show s.c + 1 + 1 ≤ _; omega
       · show meas (ins _ _ (entered sh s i e b).H) ≤ _
         rw [meas_ins, entered_H]
         show meas s.H + (i + 1) ≤ _
         omega
end
end Go.Proofs.YtpgpjjkeginbbaaGreatDoor.Tree
namespace Go.Proofs.YtpgpjjkeginbbaaGreatDoor.Tree
open HeapE (El VE)
open WheelR (Ri)
open Cal (ins Rises ins_mem ins_len ins_rises ins_behind)
section
variable {sh : Sh} {s : TS} {x : Nat}
/-- With more that is held ahead. -/
def ahead (D : List (Nat × Ri)) (s : TS) : TS := { s with H := D ++ s.H }
theorem entered_ahead (D : List (Nat × Ri)) (s : TS) (i : Nat) (e : El) (b : Nat) : entered sh (ahead D s) i e b = ahead D (entered sh s i e b) := by
 unfold entered tagged
 by_cases h : sh.kind i = 3 ∧ sh.leaf i = false
 · rw [if_pos h, if_pos h]; rfl
 · rw [if_neg h, if_neg h]; rfl
theorem come_ahead (D : List (Nat × Ri)) {t : Nat} (hD : ∀ a ∈ D, a.1 ≤ t) : ∀ (f : Nat) (s : TS) (i : Nat) (e : El) (b : Nat), come sh f (ahead D s) t i e b = ahead D (come sh f s t i e b)
 | 0, _, _, _, _ => rfl
 | f + 1, s, i, e, b => by
   unfold come
   by_cases h0 : i = 0
   · rw [if_pos h0, if_pos h0, entered_ahead]
   · rw [if_neg h0, if_neg h0]
     by_cases hg : sh.gap i = 0
     · rw [if_pos hg, if_pos hg, entered_ahead, come_ahead D hD f]
     · rw [if_neg hg, if_neg hg, entered_ahead]
       have h1 : ins (max t ((entered sh s i e b).fr i)) ((i, b) : Ri) (D ++ (entered sh s i e b).H) = D ++ ins (max t ((entered sh s i e b).fr i)) ((i, b) : Ri) (entered sh s i e b).H := ins_behind (fun a ha => by have := hD a ha; omega)
       unfold holds ahead
       simp only [h1]
/-- The one held first leaves. -/
theorem headless (h : Bal sh s 0) {t v b : Nat} {r : List (Nat × Ri)} (hH : s.H = (t, (v, b)) :: r) : Bal sh { s with H := r } v ∧ (∀ a ∈ r, t ≤ a.1) ∧ s.wn ≤ t ∧ t ≤ 18446744073709551615 ∧ v < sh.n ∧ v ≠ 0 ∧ b ≤ 65535 := by
 obtain ⟨h1, h2, h3, h4, h5⟩ := h.hn (t, (v, b)) (by rw [hH]; exact List.mem_cons_self ..)
 have hr := h.hr
 rw [hH] at hr
 have hr := List.pairwise_cons.1 hr
 refine ⟨⟨fun u hu h0 => ?_, h.inn, h.lf, h.rnk, fun a ha => h.hn a (by rw [hH]; exact List.mem_cons_of_mem _ ha), hr.2, ⟨h.fit.vi, h.fit.tg, h.fit.fr⟩, h.now⟩, fun a ha => hr.1 a ha, h4, h5, h1, h2, h3⟩
 have h6 := h.cnt u hu h0
 rw [hH, cntH_cons, if_neg h0] at h6
 show (s.q u).length = cntE u (s.q (sh.par u)) + cntH u r + _
 have e3 : ((t, ((v, b) : Ri)) : Nat × Ri).2.1 = u ↔ u = v := ⟨fun h => h.symm, fun h => h.symm⟩
 simp only [e3] at h6
 omega
theorem wn_bal (h : Bal sh s x) {t : Nat} (h1 : ∀ a ∈ s.H, t ≤ a.1) (h2 : t ≤ s.now) : Bal sh { s with wn := t } x :=
 ⟨h.cnt, h.inn, h.lf, h.rnk, fun a ha => ⟨(h.hn a ha).1, (h.hn a ha).2.1, (h.hn a ha).2.2.1, h1 a ha, (h.hn a ha).2.2.2.2⟩, h.hr, ⟨h.fit.vi, h.fit.tg, h.fit.fr⟩, ⟨h2, h.now.2⟩⟩
/-- What a rise leaves. -/
structure Rose (s s' : TS) : Prop where
 len : (s'.q 0).length + s'.H.length = (s.q 0).length + s.H.length
 now : s'.now = s.now
 m : s'.m = s.m
 c0 : s.c ≤ s'.c
 c1 : s'.c + 34 * meas s'.H ≤ s.c + 34 * meas s.H
 me : meas s'.H ≤ meas s.H
theorem Rose.refl (s : TS) : Rose s s := ⟨rfl, rfl, rfl, Nat.le_refl _, Nat.le_refl _, Nat.le_refl _⟩
theorem Rose.trans {a b c : TS} (h : Rose a b) (h' : Rose b c) : Rose a c := ⟨h'.len.trans h.len, h'.now.trans h.now, h'.m.trans h.m, Nat.le_trans h.c0 h'.c0, Nat.le_trans h'.c1 h.c1, Nat.le_trans h'.me h.me⟩
theorem rise1_some (hs : sh.Ok) (h : Bal sh s 0) {t v b : Nat} {r : List (Nat × Ri)} (hH : s.H = (t, (v, b)) :: r) (ht : t ≤ s.now) :
 rise1 sh s = come sh 32 { s with H := r, wn := t } t (sh.par v) (chi v) b ∧ Bal sh { s with H := r, wn := t } v ∧ Comes sh v (sh.par v) (chi v) ∧ sh.par v < v ∧ Bal sh (rise1 sh s) 0 ∧ Rose s (rise1 sh s) ∧ meas (rise1 sh s).H < meas s.H := by
 obtain ⟨h1, h2, h3, h4, h5, h6, h7⟩ := headless h hH
 have e1 : rise1 sh s = come sh 32 { s with H := r, wn := t } t (sh.par v) (chi v) b := by
  unfold rise1; rw [hH]; exact if_pos ht
 have h8 : Bal sh { s with H := r, wn := t } v := wn_bal (s := { s with H := r }) h1 h2 ht
 have h9 := hs.par v h5 h6
 have hc : Comes sh v (sh.par v) (chi v) := .inr ⟨h6, h5, rfl, rfl⟩
 have hle := hs.le
 obtain ⟨g1, g2⟩ := come_bal hs 32 (s := { s with H := r, wn := t }) (t := t) (b := b) (by omega) h8 (by omega) hc (Nat.le_refl _) h4 h7
 rw [e1]
 have g3 := g2.len
 have g4 := g2.c1
 have g5 := g2.me
 have e2 : s.H.length = r.length + 1 := by rw [hH]; rfl
 have e3 : meas s.H = v + 1 + meas r := by rw [hH]; exact meas_cons _ _
 refine ⟨rfl, h8, hc, h9, g1, ⟨?_, g2.now, g2.m, g2.c0, ?_, ?_⟩, ?_⟩
 · rw [g3, e2]; show (s.q 0).length + r.length + 1 = _; omega
 · have g6 : (come sh 32 { s with H := r, wn := t } t (sh.par v) (chi v) b).c ≤ s.c + sh.par v + 2 := g4
   have g7 : meas (come sh 32 { s with H := r, wn := t } t (sh.par v) (chi v) b).H ≤ meas r + sh.par v + 1 := g5
   omega
 · have g7 : meas (come sh 32 { s with H := r, wn := t } t (sh.par v) (chi v) b).H ≤ meas r + sh.par v + 1 := g5
   omega
 · have g7 : meas (come sh 32 { s with H := r, wn := t } t (sh.par v) (chi v) b).H ≤ meas r + sh.par v + 1 := g5
   omega
/-- Nothing is due. -/
def Still (s : TS) : Prop := ∀ a ∈ s.H, s.now < a.1
theorem rise1_still (h : Still s) : rise1 sh s = s := by
 unfold rise1
 split
 · rename_i t v b r hH
   have := h (t, (v, b)) (by rw [hH]; exact List.mem_cons_self ..)
   exact if_neg (by omega)
 · rfl
theorem rises_still : ∀ (k : Nat) {s : TS}, Still s → rises sh k s = s
 | 0, _, _ => rfl
 | k + 1, s, h => by unfold rises; rw [rise1_still h]; exact rises_still k h
theorem due_or (h : Bal sh s x) : Still s ∨ ∃ t v b r, s.H = (t, (v, b)) :: r ∧ t ≤ s.now := by
 cases hH : s.H with
 | nil => exact .inl (fun a ha => by rw [hH] at ha; cases ha)
 | cons a r =>
   obtain ⟨t, v, b⟩ := a
   by_cases ht : t ≤ s.now
   · exact .inr ⟨t, v, b, r, rfl, ht⟩
   · refine .inl (fun a ha => ?_)
     have hr := h.hr
     rw [hH] at hr ha
     rcases List.mem_cons.1 ha with rfl | ha
     · show s.now < t; omega
     · have := (List.pairwise_cons.1 hr).1 a ha; show s.now < a.1; have : t ≤ a.1 := this; omega
theorem rises_bal (hs : sh.Ok) : ∀ (k : Nat) {s : TS}, Bal sh s 0 → meas s.H ≤ k → Bal sh (rises sh k s) 0 ∧ Rose s (rises sh k s) ∧ Still (rises sh k s) ∧ ∀ k', meas s.H ≤ k' → rises sh k' s = rises sh k s
 | 0, s, h, hk => by
   have : s.H = [] := by
    cases hH : s.H with
    | nil => rfl
    | cons a r => rw [hH, meas_cons] at hk; omega
   have hst : Still s := fun a ha => by rw [this] at ha; cases ha
   exact ⟨h, Rose.refl s, hst, fun k' _ => rises_still k' hst⟩
 | k + 1, s, h, hk => by
   rcases due_or h with hst | ⟨t, v, b, r, hH, ht⟩
   · rw [rises_still (k + 1) hst]
     exact ⟨h, Rose.refl s, hst, fun k' _ => rises_still k' hst⟩
   · obtain ⟨_, _, _, _, h1, h2, h3⟩ := rise1_some hs h hH ht
     obtain ⟨g1, g2, g3, g4⟩ := rises_bal hs k (s := rise1 sh s) h1 (by omega)
     unfold rises
     refine ⟨g1, h2.trans g2, g3, fun k' hk' => ?_⟩
     cases k' with
     | zero => omega
     | succ k' => exact g4 k' (by omega)
theorem rises_step (hs : sh.Ok) (h : Bal sh s 0) {t v b : Nat} {r : List (Nat × Ri)} (hH : s.H = (t, (v, b)) :: r) (ht : t ≤ s.now) : rises sh (meas s.H) s = rises sh (meas (rise1 sh s).H) (rise1 sh s) := by
 obtain ⟨_, _, _, _, h1, h2, h3⟩ := rise1_some hs h hH ht
 obtain ⟨k, hk⟩ : ∃ k, meas s.H = k + 1 := ⟨meas s.H - 1, by omega⟩
 rw [hk]
 show rises sh k (rise1 sh s) = _
 exact (rises_bal hs (meas (rise1 sh s).H) h1 (Nat.le_refl _)).2.2.2 k (by omega)
theorem later_bal (h : Bal sh s x) {t : Nat} (ht : t ≤ 18446744073709551615) : Bal sh { s with now := max s.now t } x :=
 ⟨h.cnt, h.inn, h.lf, h.rnk, h.hn, h.hr, ⟨h.fit.vi, h.fit.tg, h.fit.fr⟩, ⟨by have := h.now; show s.wn ≤ max s.now t; omega, by have := h.now; show max s.now t ≤ _; omega⟩⟩
/-- What time's going by leaves. -/
theorem pass_bal (hs : sh.Ok) (h : Bal sh s 0) {t : Nat} (ht : t ≤ 18446744073709551615) : Bal sh (pass sh s t) 0 ∧ Still (pass sh s t) ∧ (pass sh s t).now = max s.now t ∧ (pass sh s t).m = s.m ∧ ((pass sh s t).q 0).length + (pass sh s t).H.length = (s.q 0).length + s.H.length ∧ s.c ≤ (pass sh s t).c ∧ (pass sh s t).c + 34 * meas (pass sh s t).H ≤ s.c + 34 * meas s.H := by
 obtain ⟨g1, g2, g3, g4⟩ := rises_bal hs (meas s.H) (s := { s with now := max s.now t }) (later_bal h ht) (Nat.le_refl _)
 exact ⟨g1, g3, g2.now, g2.m, g2.len, g2.c0, g2.c1⟩
theorem meas_le (h : Bal sh s x) (hs : sh.Ok) : meas s.H ≤ 32 * s.H.length := by
 have h1 := h.hn
 have h2 := hs.le
 generalize s.H = l at h1
 induction l with
 | nil => exact Nat.le_refl _
 | cons a l ih =>
   have h3 := (h1 a (List.mem_cons_self ..)).1
   have h4 := ih (fun b hb => h1 b (List.mem_cons_of_mem _ hb))
   rw [meas_cons, List.length_cons]; omega
end
/-- A packet comes. -/
def push (sh : Sh) (room : Nat) (s : TS) (now : Nat) (leaf : Int) (p : Nat × Nat × Nat) : Nat × TS :=
 let s1 := pass sh s now
 if leaf < 0 ∨ (sh.n : Int) ≤ leaf then (7, s1) else if sh.leaf leaf.toNat = false then (6, s1) else if p.2.2 = 0 ∨ 65535 < p.2.2 then (12, s1) else if room ≤ s1.m then (20, s1)
 else (0, pass sh (come sh 32 { s1 with m := s1.m + 1 } s1.now leaf.toNat ((0 : Int), p) p.2.2) s1.now)
/-- A packet leaves. -/
def pop (sh : Sh) (s : TS) (now : Nat) : (Nat × Nat × Nat) × Nat × TS :=
 let s1 := pass sh s now
 if s1.m = 0 then ((0, 0, 0), 18, s1) else if s1.q 0 = [] then ((0, 0, 0), 19, s1) else ((down sh 32 { s1 with m := s1.m - 1 } 0).1.2, 0, (down sh 32 { s1 with m := s1.m - 1 } 0).2)
section
variable {sh : Sh} {s : TS} {x : Nat}
theorem m_bal (h : Bal sh s x) (m : Nat) : Bal sh { s with m := m } x := ⟨h.cnt, h.inn, h.lf, h.rnk, h.hn, h.hr, ⟨h.fit.vi, h.fit.tg, h.fit.fr⟩, h.now⟩
theorem fit_up {f : Nat → Nat} (h : ∀ i, f i ≤ 18446744073709551615) (i : Nat) {r : Nat} (hr : r ≤ 18446744073709551615) : ∀ k, up f i r k ≤ 18446744073709551615 := up_le h hr i
/-- One that leaves a node. -/
theorem taken (hs : sh.Ok) (h : Bal sh s x) (hx : x < sh.n) {r : Nat} {e : El} {t : List (Nat × El)} (hq : s.q x = (r, e) :: t) :
 (sh.leaf x = true → Bal sh { s with q := up s.q x t } 0 ∧ PK e) ∧
 (sh.leaf x = false → ∃ c, c < sh.n ∧ x < c ∧ sh.par c = x ∧ e = chi c ∧ s.q c ≠ [] ∧ Bal sh { s with q := up s.q x t } c ∧ r ≤ 18446744073709551615) := by
 have hmem : (r, e) ∈ s.q x := by rw [hq]; exact List.mem_cons_self ..
 have hsub : ∀ j a, a ∈ up s.q x t j → a ∈ s.q j := fun j a ha => by
  by_cases e1 : j = x
  · subst e1; rw [up_at] at ha; rw [hq]; exact List.mem_cons_of_mem _ ha
  · rw [up_off _ e1] at ha; exact ha
 have hb : ∀ y, (∀ v, v < sh.n → v ≠ 0 → (up s.q x t v).length = cntE v (up s.q x t (sh.par v)) + cntH v s.H + if v = y then 1 else 0) → Bal sh { s with q := up s.q x t } y := fun y hy =>
  ⟨hy, fun i hi hl a ha => h.inn i hi hl a (hsub i a ha), fun i hi hl a ha => h.lf i hi hl a (hsub i a ha), fun i hi a ha => h.rnk i hi a (hsub i a ha), h.hn, h.hr, ⟨h.fit.vi, h.fit.tg, h.fit.fr⟩, h.now⟩
 refine ⟨fun hl => ⟨hb 0 (fun v hv h0 => ?_), h.lf x hx hl _ hmem⟩, fun hl => ?_⟩
 · have h1 := h.cnt v hv h0
   have h2 : sh.par v ≠ x := (hs.leaf x hx).1 hl v hv h0
   rw [up_off _ h2, if_neg h0]
   by_cases e1 : v = x
   · subst e1
     rw [up_at]
     rw [hq, if_pos rfl, List.length_cons] at h1
     omega
   · rw [up_off _ e1]
     rw [if_neg e1] at h1
     exact h1
 · obtain ⟨c, hc, hc0, hcp, he⟩ := h.inn x hx hl _ hmem
   have he : e = chi c := he
   subst he
   have hlt : x < c := hcp ▸ hs.par c hc hc0
   have h3 := h.cnt c hc hc0
   rw [hcp, hq, cntE_cons, if_pos (show ((r, chi c) : Nat × El).2.1 = (c : Int) from rfl)] at h3
   refine ⟨c, hc, hlt, hcp, rfl, fun e1 => by rw [e1] at h3; simp at h3; omega, hb c (fun v hv h0 => ?_), h.rnk x hx _ hmem⟩
   have h1 := h.cnt v hv h0
   have h2 := hs.par v hv h0
   by_cases e1 : v = x
   · subst e1
     rw [up_at, up_off _ (by omega), if_neg (by omega)]
     rw [hq, if_pos rfl, List.length_cons] at h1
     omega
   · rw [up_off _ e1]
     rw [if_neg e1] at h1
     by_cases e2 : sh.par v = x
     · rw [e2, up_at]
       rw [e2, hq, cntE_cons] at h1
       have e3 : ((r, chi c) : Nat × El).2.1 = (v : Int) ↔ v = c := ⟨fun h => by have : ((c : Nat) : Int) = v := h; omega, fun h => by subst h; rfl⟩
       simp only [e3] at h1
       omega
     · rw [up_off _ e2, if_neg (fun h9 => e2 (by rw [h9]; exact hcp))]
       exact h1
theorem vi_bal (h : Bal sh s x) (i : Nat) {r : Nat} (hr : r ≤ 18446744073709551615) : Bal sh { s with vi := up s.vi i r } x := ⟨h.cnt, h.inn, h.lf, h.rnk, h.hn, h.hr, ⟨fit_up h.fit.vi i hr, h.fit.tg, h.fit.fr⟩, h.now⟩
/-- What going down leaves. -/
structure Gone (s s' : TS) : Prop where
 H : s'.H = s.H
 now : s'.now = s.now
 wn : s'.wn = s.wn
 m : s'.m = s.m
 c : s'.c = s.c
 fr : s'.fr = s.fr
 tg : s'.tg = s.tg
/-- A node after one left it that is no leaf. -/
def stepped (sh : Sh) (s : TS) (i r : Nat) (t : List (Nat × El)) : TS := if sh.kind i = 3 then { s with q := up s.q i t, vi := up s.vi i r } else { s with q := up s.q i t }
theorem stepped_gone (i r : Nat) (t : List (Nat × El)) : Gone s (stepped sh s i r t) ∧ (stepped sh s i r t).q = up s.q i t := by
 unfold stepped; split <;> exact ⟨⟨rfl, rfl, rfl, rfl, rfl, rfl, rfl⟩, rfl⟩
theorem Gone.trans {a b c : TS} (h : Gone a b) (h' : Gone b c) : Gone a c := ⟨h'.H.trans h.H, h'.now.trans h.now, h'.wn.trans h.wn, h'.m.trans h.m, h'.c.trans h.c, h'.fr.trans h.fr, h'.tg.trans h.tg⟩
theorem down_bal (hs : sh.Ok) : ∀ (f : Nat) {s : TS} {x : Nat}, sh.n ≤ f + x → Bal sh s x → x < sh.n → s.q x ≠ [] → Bal sh (down sh f s x).2 0 ∧ PK (down sh f s x).1 ∧ Gone s (down sh f s x).2 ∧ (∀ i, i < x → (down sh f s x).2.q i = s.q i) ∧ ((down sh f s x).2.q x).length + 1 = (s.q x).length
 | 0, _, _, h0, _, hx, _ => absurd hx (by omega)
 | f + 1, s, x, hf, h, hx, hq => by
   cases he : s.q x with
   | nil => exact absurd he hq
   | cons a t =>
     obtain ⟨r, e⟩ := a
     obtain ⟨h1, h2⟩ := taken hs h hx he
     cases hl : sh.leaf x with
     | true =>
       have e1 : down sh (f + 1) s x = (e, { s with q := up s.q x t }) := by
        simp only [down, he]; rw [if_pos hl]
       rw [e1]
       refine ⟨(h1 hl).1, (h1 hl).2, ⟨rfl, rfl, rfl, rfl, rfl, rfl, rfl⟩, fun i hi => up_off _ (by omega) _, ?_⟩
       show (up s.q x t x).length + 1 = _
       rw [up_at]; rfl
     | false =>
       obtain ⟨c, hc, hlt, hcp, rfl, hne, hb, hr⟩ := h2 hl
       have e1 : down sh (f + 1) s x = down sh f (stepped sh s x r t) c := by
        simp only [down, he]; rw [if_neg (by rw [hl]; exact Bool.false_ne_true)]
        unfold stepped
        have e2 : (chi c).1.toNat = c := Int.toNat_natCast c
        rw [e2]
       obtain ⟨g1, g2⟩ := stepped_gone (sh := sh) (s := s) x r t
       have hb2 : Bal sh (stepped sh s x r t) c := by
        unfold stepped
        split
        · exact vi_bal hb x hr
        · exact hb
       obtain ⟨a1, a2, a3, a4, a5⟩ := down_bal hs f (s := stepped sh s x r t) (x := c) (by omega) hb2 hc (by rw [g2, up_off _ (by omega)]; exact hne)
       rw [e1]
       refine ⟨a1, a2, g1.trans a3, fun i hi => ?_, ?_⟩
       · rw [a4 i (by omega), g2, up_off _ (by omega)]
       · rw [a4 x hlt, g2, up_at]; rfl
/-- A tree that may be. -/
structure Good (sh : Sh) (room : Nat) (s : TS) : Prop where
 bal : Bal sh s 0
 tot : Tot s 0
 le : s.m ≤ room
theorem Good.meas {room : Nat} (h : Good sh room s) (hs : sh.Ok) (hr : room ≤ 4096) : Tree.meas s.H ≤ 131072 := by
 have h1 := meas_le h.bal hs
 have h2 := h.tot
 have h3 := h.le
 unfold Tot at h2
 omega
theorem pass_good {room : Nat} (hs : sh.Ok) (h : Good sh room s) {t : Nat} (ht : t ≤ 18446744073709551615) : Good sh room (pass sh s t) := by
 obtain ⟨g1, g2, g3, g4, g5, g6, g7⟩ := pass_bal hs h.bal ht
 refine ⟨g1, ?_, by rw [g4]; exact h.le⟩
 have := h.tot
 unfold Tot at this ⊢
 omega
theorem came_good {room : Nat} (hs : sh.Ok) (h : Good sh room s) {i : Nat} (hi : i < sh.n) (hl : sh.leaf i = true) {e : El} (hp : PK e) (hm : s.m < room) :
 Bal sh { s with m := s.m + 1 } 0 ∧ Comes sh 0 i e ∧ Good sh room (come sh 32 { s with m := s.m + 1 } s.now i e e.2.2.2) ∧ Came { s with m := s.m + 1 } (come sh 32 { s with m := s.m + 1 } s.now i e e.2.2.2) i := by
 have h1 := m_bal h.bal (s.m + 1)
 have hc : Comes sh 0 i e := .inl ⟨rfl, hl, hp⟩
 have hle := hs.le
 obtain ⟨g1, g2⟩ := come_bal hs 32 (s := { s with m := s.m + 1 }) (t := s.now) (b := e.2.2.2) (by omega) h1 hi hc h.bal.now.1 h.bal.now.2 hp.2.2.2
 refine ⟨h1, hc, ⟨g1, ?_, by rw [g2.m]; exact hm⟩, g2⟩
 have h2 := h.tot
 have h3 := g2.len
 have h4 := g2.m
 unfold Tot at h2 ⊢
 rw [h4]
 show s.m + 1 = _
 have h5 : (come sh 32 { s with m := s.m + 1 } s.now i e e.2.2.2).q 0 = (come sh 32 { s with m := s.m + 1 } s.now i e e.2.2.2).q 0 := rfl
 change _ = (s.q 0).length + s.H.length + 1 at h3
 omega
theorem push_good {room : Nat} (hs : sh.Ok) (h : Good sh room s) (hr : room ≤ 4096) {t : Nat} (ht : t ≤ 18446744073709551615) (leaf : Int) (p : Nat × Nat × Nat) (hp1 : p.1 < 4294967296) (hp2 : p.2.1 < 4294967296) :
 Good sh room (push sh room s t leaf p).2 ∧ s.c ≤ (push sh room s t leaf p).2.c ∧ (push sh room s t leaf p).2.c ≤ s.c + 10000000 := by
 have h1 := pass_good hs h ht
 obtain ⟨_, _, _, _, _, g6, g7⟩ := pass_bal hs h.bal ht
 have hm := h.meas hs hr
 unfold push
 simp only
 split
 · exact ⟨h1, g6, by show (pass sh s t).c ≤ _; omega⟩
 · rename_i ha
   have hi : leaf.toNat < sh.n := by omega
   split
   · exact ⟨h1, g6, by show (pass sh s t).c ≤ _; omega⟩
   · rename_i hb
     have hl : sh.leaf leaf.toNat = true := by revert hb; cases sh.leaf leaf.toNat <;> simp
     split
     · exact ⟨h1, g6, by show (pass sh s t).c ≤ _; omega⟩
     · rename_i hc
       split
       · exact ⟨h1, g6, by show (pass sh s t).c ≤ _; omega⟩
       · rename_i hd
         obtain ⟨_, _, b1, b2⟩ := came_good hs h1 hi hl (e := ((0 : Int), p)) ⟨rfl, hp1, hp2, by show p.2.2 ≤ 65535; omega⟩ (by omega)
         have hnow := h1.bal.now.2
         have b3 := pass_good hs b1 hnow
         obtain ⟨_, _, _, _, _, d6, d7⟩ := pass_bal hs b1.bal hnow
         have hm2 := b1.meas hs hr
         have b4 := b2.c0
         have b5 := b2.c1
         have hle := hs.le
         change (pass sh s t).c ≤ _ at b4
         change _ ≤ (pass sh s t).c + _ + 2 at b5
         simp only at b3 d6 d7 hm2 b4 b5
         exact ⟨b3, by show s.c ≤ (pass sh _ _).c; omega, by show (pass sh _ _).c ≤ _; omega⟩
theorem pop_good {room : Nat} (hs : sh.Ok) (h : Good sh room s) (hr : room ≤ 4096) {t : Nat} (ht : t ≤ 18446744073709551615) :
 Good sh room (pop sh s t).2.2 ∧ s.c ≤ (pop sh s t).2.2.c ∧ (pop sh s t).2.2.c ≤ s.c + 10000000 := by
 have h1 := pass_good hs h ht
 obtain ⟨_, _, _, _, _, g6, g7⟩ := pass_bal hs h.bal ht
 have hm := h.meas hs hr
 unfold pop
 simp only
 split
 · exact ⟨h1, g6, by show (pass sh s t).c ≤ _; omega⟩
 · rename_i ha
   split
   · exact ⟨h1, g6, by show (pass sh s t).c ≤ _; omega⟩
   · rename_i hb
     have hle := hs.le
     obtain ⟨a1, a2, a3, a4, a5⟩ := down_bal hs 32 (s := { pass sh s t with m := (pass sh s t).m - 1 }) (x := 0) (by omega) (m_bal h1.bal _) hs.pos hb
     have e1 : (down sh 32 { pass sh s t with m := (pass sh s t).m - 1 } 0).2.H = (pass sh s t).H := a3.H
     have e2 : (down sh 32 { pass sh s t with m := (pass sh s t).m - 1 } 0).2.m = (pass sh s t).m - 1 := a3.m
     have e3 : (down sh 32 { pass sh s t with m := (pass sh s t).m - 1 } 0).2.c = (pass sh s t).c := a3.c
     have e4 : ((down sh 32 { pass sh s t with m := (pass sh s t).m - 1 } 0).2.q 0).length + 1 = ((pass sh s t).q 0).length := a5
     have h2 := h1.tot
     have h3 := h1.le
     refine ⟨⟨a1, ?_, by rw [e2]; omega⟩, by rw [e3]; exact g6, by rw [e3]; omega⟩
     unfold Tot at h2 ⊢
     rw [e1, e2]
     clear a5
     show (pass sh s t).m - 1 = ((down sh 32 { pass sh s t with m := (pass sh s t).m - 1 } 0).2.q 0).length + (pass sh s t).H.length + 0
     omega
end
end Go.Proofs.YtpgpjjkeginbbaaGreatDoor.Tree
namespace Go.Proofs.YtpgpjjkeginbbaaGreatDoor.Tree
open HeapE (El VE)
open WheelR (Ri)
open Cal (ins Rises ins_mem ins_len ins_rises ins_behind)
theorem due_split (t : Nat) : ∀ {l : List (Nat × Ri)}, Rises l → l.filter (fun a => decide (a.1 ≤ t)) ++ l.filter (fun a => decide (t < a.1)) = l
 | [], _ => rfl
 | a :: l, h => by
   have h1 := List.pairwise_cons.1 h
   by_cases ha : a.1 ≤ t
   · rw [List.filter_cons_of_pos (by simpa using ha), List.filter_cons_of_neg (by simpa using ha), List.cons_append, due_split t h1.2]
   · have e1 : (a :: l).filter (fun a => decide (a.1 ≤ t)) = [] := List.filter_eq_nil_iff.2 (fun b hb => by
      rcases List.mem_cons.1 hb with rfl | hb
      · simpa using ha
      · have := h1.1 b hb; simp; omega)
     have e2 : (a :: l).filter (fun a => decide (t < a.1)) = a :: l := List.filter_eq_self.2 (fun b hb => by
      rcases List.mem_cons.1 hb with rfl | hb
      · simp; omega
      · have := h1.1 b hb; simp; omega)
     rw [e1, e2]; rfl
/-- On the way to T. -/
structure On (sh : Sh) (room B : Nat) (T s : TS) : Prop where
 bal : Bal sh s 0
 tot : Tot s 0
 le : s.m ≤ room
 ends : rises sh (meas s.H) s = T
 cb : s.c + 34 * meas s.H ≤ B
section
variable {sh : Sh} {room B : Nat} {T s : TS}
theorem On.done (h : On sh room B T s) (hs : Still s) : s = T := by
 have := h.ends
 rw [rises_still _ hs] at this
 exact this
theorem On.due (h : On sh room B T s) {t : Nat} {x : Ri} {r : List (Nat × Ri)} (hH : s.H = (t, x) :: r) (ht : t ≤ s.now) :
 s.wn ≤ t ∧ t ≤ 18446744073709551615 ∧ On sh room B T (ahead (s.H.filter (fun a => decide (a.1 ≤ t))) { s with wn := t, H := s.H.filter (fun a => decide (t < a.1)) }) ∧ (∀ a ∈ s.H.filter (fun a => decide (a.1 ≤ t)), a.1 = t) ∧ 0 < (s.H.filter (fun a => decide (a.1 ≤ t))).length ∧ meas (ahead (s.H.filter (fun a => decide (a.1 ≤ t))) { s with wn := t, H := s.H.filter (fun a => decide (t < a.1)) }).H = meas s.H := by
 obtain ⟨v, b⟩ := x
 obtain ⟨h1, h2, h3, h4, h5, h6, h7⟩ := headless h.bal hH
 have hle : ∀ a ∈ s.H, t ≤ a.1 := fun a ha => by
  rw [hH] at ha
  rcases List.mem_cons.1 ha with rfl | ha
  · exact Nat.le_refl _
  · exact h2 a ha
 have e1 : ahead (s.H.filter (fun a => decide (a.1 ≤ t))) { s with wn := t, H := s.H.filter (fun a => decide (t < a.1)) } = { s with wn := t } := by
  unfold ahead
  simp only [due_split t h.bal.hr]
 refine ⟨h3, h4, ?_, fun a ha => ?_, ?_, by rw [e1]⟩
 · rw [e1]
   refine ⟨wn_bal h.bal hle ht, h.tot, h.le, ?_, h.cb⟩
   rw [← h.ends]
   obtain ⟨k, hk⟩ : ∃ k, meas s.H = k + 1 := ⟨meas s.H - 1, by rw [hH, meas_cons]; omega⟩
   show rises sh (meas s.H) _ = _
   rw [hk]
   show rises sh k (rise1 sh { s with wn := t }) = rises sh k (rise1 sh s)
   congr 1
   unfold rise1
   simp only [hH]
   rw [if_pos ht, if_pos ht]
 · obtain ⟨ha1, ha2⟩ := List.mem_filter.1 ha
   have := hle a ha1
   have : a.1 ≤ t := by simpa using ha2
   omega
 · rw [hH, List.filter_cons_of_pos (by simp)]
   simp
theorem On.step (hs : sh.Ok) {t v b : Nat} {D : List (Nat × Ri)} (h : On sh room B T (ahead ((t, (v, b)) :: D) s)) (hD : ∀ a ∈ D, a.1 = t) (hw : s.wn = t) (hn : t ≤ s.now) (hB : B + 40 < 18446744073709551615) :
 v < sh.n ∧ sh.par v < sh.n ∧ sh.par v < 32 ∧ (∀ u, u ≤ sh.par v → (s.q u).length < room) ∧ s.H.length < room ∧ s.c + 34 < 18446744073709551615 ∧ s.Fit ∧ b ≤ 18446744073709551615 ∧ t ≤ 18446744073709551615 ∧
  On sh room B T (ahead D (come sh 32 s t (sh.par v) (chi v) b)) ∧ (come sh 32 s t (sh.par v) (chi v) b).wn = t ∧ (come sh 32 s t (sh.par v) (chi v) b).now = s.now ∧ meas (ahead D (come sh 32 s t (sh.par v) (chi v) b)).H < meas (ahead ((t, (v, b)) :: D) s).H := by
 obtain ⟨g1, g2, g3, g4, g5, g6, g7⟩ := rise1_some hs h.bal (hH := rfl) hn
 obtain ⟨k1, k2, k3, k4, k5, k6, k7⟩ := headless h.bal rfl
 have e1 : ({ (ahead ((t, (v, b)) :: D) s) with H := D ++ s.H, wn := t } : TS) = ahead D s := by
  subst hw; rfl
 change rise1 sh (ahead ((t, (v, b)) :: D) s) = come sh 32 ({ (ahead ((t, (v, b)) :: D) s) with H := D ++ s.H, wn := t } : TS) t (sh.par v) (chi v) b at g1
 change Bal sh ({ (ahead ((t, (v, b)) :: D) s) with H := D ++ s.H, wn := t } : TS) v at g2
 rw [e1] at g1 g2
 rw [come_ahead D (fun a ha => by rw [hD a ha]; exact Nat.le_refl _)] at g1
 have htot := h.tot
 have hle := h.le
 have hcb := h.cb
 have hsle := hs.le
 have hL : (ahead ((t, (v, b)) :: D) s).H.length = D.length + s.H.length + 1 := by
  show ((t, (v, b)) :: D ++ s.H).length = _
  simp
 have htot2 : s.m = (s.q 0).length + (ahead ((t, (v, b)) :: D) s).H.length + 0 := htot
 have hle2 : s.m ≤ room := hle
 have hcb2 : s.c + 34 * meas (ahead ((t, (v, b)) :: D) s).H ≤ B := hcb
 have hb1 : Tot (ahead D s) 1 := by
  show s.m = (s.q 0).length + (D ++ s.H).length + 1
  rw [htot2, hL, List.length_append]; omega
 have hx := k6
 have hlt := hs.par v k5 k6
 have hroom := g2.room hs hb1 (room := room) (i := sh.par v) hle2 (.inr g4)
 have hc9 : Came (ahead D s) (ahead D (come sh 32 s t (sh.par v) (chi v) b)) (sh.par v) := by
  have h9 := (come_bal hs 32 (s := ahead D s) (x := v) (i := sh.par v) (e := chi v) (t := t) (b := b) (by omega) g2 (by omega) g3 (show s.wn ≤ t by omega) k4 k7).2
  rw [come_ahead D (fun a ha => by rw [hD a ha]; exact Nat.le_refl _)] at h9
  exact h9
 refine ⟨k5, by omega, by omega, fun u hu => hroom u hu (by omega), by rw [hL] at htot2; omega, by omega, ⟨g2.fit.vi, g2.fit.tg, g2.fit.fr⟩, by omega, k4, ?_, hc9.wn.trans hw, hc9.now, by rw [← g1]; exact g7⟩
 rw [← g1]
 refine ⟨g5, ?_, by rw [g6.m]; exact hle, ?_, Nat.le_trans g6.c1 hcb⟩
 · unfold Tot
   rw [g6.m, g6.len]
   exact htot
 · rw [← rises_step hs h.bal rfl hn]
   exact h.ends
/-- When time begins to go by. -/
theorem On.start (h : Good sh room s) {t : Nat} (ht : t ≤ 18446744073709551615) : On sh room (s.c + 34 * meas s.H) (pass sh s t) { s with now := max s.now t } :=
 ⟨later_bal h.bal ht, h.tot, h.le, rfl, Nat.le_refl _⟩
/-- What Next tells. -/
def nx (H : List (Nat × Ri)) : Nat × Bool :=
 match H with
 | [] => (0, false)
 | a :: _ => (a.1, true)
theorem nx_true {H : List (Nat × Ri)} (h : (nx H).2 = true) : ∃ t x r, H = (t, x) :: r ∧ (nx H).1 = t := by
 cases H with
 | nil => cases h
 | cons a r => exact ⟨a.1, a.2, r, rfl, rfl⟩
theorem nx_false {H : List (Nat × Ri)} (h : (nx H).2 = false) : H = [] := by
 cases H with
 | nil => rfl
 | cons a r => cases h
theorem still_of (hr : Rises s.H) {t : Nat} {x : Ri} {r : List (Nat × Ri)} (hH : s.H = (t, x) :: r) (ht : s.now < t) : Still s := fun a ha => by
 rw [hH] at ha hr
 rcases List.mem_cons.1 ha with rfl | ha
 · exact ht
 · have := (List.pairwise_cons.1 hr).1 a ha
   show s.now < a.1
   have : t ≤ a.1 := this
   omega
end
end Go.Proofs.YtpgpjjkeginbbaaGreatDoor.Tree
namespace Go.Proofs.YtpgpjjkeginbbaaGreatDoor.Tree
open Go.RowKit Go.Proofs BigFrame
open HeapE (El VE Hq q_push)
open WheelR (Ri Wq w_next w_next0 w_due wheelC KR TI)
open Cal (ins)
set_option maxHeartbeats 4000000
set_option maxRecDepth 1000000
section
variable {w w' w1 : World} {own own' own1 : Nat → Prop} {L : Lay} {sh : Sh} {room : Nat} {s : TS}
/-- The table stands, off the tree. -/
structure TabOff (w : World) (own : Nat → Prop) : Prop where
 tab : WheelR.Tab w
 off : ¬ own (Tryz.tz64_ren.g 1)
 low : Tryz.tz64_ren.g 1 < w.heap.size
theorem TabOff.fol (h : TabOff w own) (hf : Fol w own w' own') : TabOff w' own' :=
 ⟨h.tab.old hf.upd h.off, fun hk => (hf.at_ _ hk).elim h.off (fun h9 => absurd h.low (Nat.not_lt.2 h9)), Nat.lt_of_lt_of_le h.low hf.upd.size⟩
theorem next_ok (h : TIn w own L sh room s) (hT : TabOff w own) : Calls Tryz.prog 60 #[.pointer (some ⟨L.hb, 0, none⟩)] w fun e w' => e = .returned (.tuple #[.int .u64 ((nx s.H).1 : Nat), .bool (nx s.H).2]) ∧ Upd Nowhere w w' := by
 obtain ⟨o, h1, _, _⟩ := h.wheel
 cases hH : s.H with
 | nil => rw [hH] at h1; exact w_next0 h1
 | cons a r => obtain ⟨t, x⟩ := a; rw [hH] at h1; exact w_next h1 hT.tab
/-- Two things that are one are two. -/
theorem Sep.two {A R : Comp} {l1 l2 : List Comp} (h : Sep w (l1 ++ sepC [A, R] :: l2) own) : ∃ oR o', R.P w oR ∧ Sep w (l1 ++ A :: l2) o' ∧ (∀ k, oR k → ¬ o' k) ∧ ∀ k, own k ↔ oR k ∨ o' k := by
 have h1 := Sep.perm List.perm_middle h
 obtain ⟨o, o', ⟨oA, oN, hA, ⟨oR, oE, hR, hE, hd2, hi2⟩, hd1, hi1⟩, hrest, hd, hi⟩ := h1
 refine ⟨oR, fun k => oA k ∨ o' k, hR, Sep.perm List.perm_middle.symm ⟨oA, o', hA, hrest, fun k hk => hd k ((hi1 k).2 (.inl hk)), fun _ => Iff.rfl⟩, fun k hk h9 => ?_, fun k => ?_⟩
 · rcases h9 with h9 | h9
   · exact hd1 k h9 ((hi2 k).2 (.inl hk))
   · exact hd k ((hi1 k).2 (.inr ((hi2 k).2 (.inl hk)))) h9
 · rw [hi k, hi1 k, hi2 k]
   constructor
   · rintro ((h | h | h) | h)
     · exact .inr (.inl h)
     · exact .inl h
     · exact absurd h (hE k)
     · exact .inr (.inr h)
   · rintro (h | h | h)
     · exact .inl (.inr (.inl h))
     · exact .inl (.inl h)
     · exact .inr h
theorem due_ok (h : TIn w own L sh room s) (hT : TabOff w own) {t : Nat} (ht : s.wn ≤ t) (ht2 : t ≤ 18446744073709551615) : Calls Tryz.prog 61 #[.pointer (some ⟨L.hb, 0, none⟩), .int .u64 t] w fun e w' => ∃ v oR own', e = .returned v ∧
 (rowW TI 2 v (s.H.filter (fun a => decide (a.1 ≤ t))).length ((s.H.filter (fun a => decide (a.1 ≤ t))).flatMap (fun a => KR a.2))).P w' oR ∧ TIn w' own' L sh room { s with wn := t, H := s.H.filter (fun a => decide (t < a.1)) } ∧ (∀ k, oR k → ¬ own' k) ∧ Fol w own w' own' := by
 obtain ⟨o, h1, h2, h3⟩ := Sep.foc (wheelC L.hb room s.wn s.c s.H) ((List.range sh.n).map (qs L room s)) [blkC L.b (tcell L sh room s) TT, rowW TN 9 (.slice (some ⟨L.g, 0, none⟩) sh.n L.cap) sh.n ((List.range sh.n).flatMap (ncell L sh s))] h
 have hm : max s.wn t = t := by omega
 have hd := w_due h1 hT.tab t ht2
 rw [hm] at hd
 refine hd.mono ?_
 rintro e w' ⟨v, rfl, hr, o2, h4, h5, h6⟩
 have hblk : ∀ k, v.ownBlock = some k → w.heap.size ≤ k ∧ k < w'.heap.size := fun k hk => hr.lt k hk
 have hrow : (rowW TI 2 v (s.H.filter (fun a => decide (a.1 ≤ t))).length ((s.H.filter (fun a => decide (a.1 ≤ t))).flatMap (fun a => KR a.2))).P w' (fun k => v.ownBlock = some k) := ⟨ownsRow_base hr (Nat.zero_le _), fun _ => Iff.rfl⟩
 have hC : (sepC [wheelC L.hb room t s.c (s.H.filter (fun a => decide (t < a.1))), rowW TI 2 v (s.H.filter (fun a => decide (a.1 ≤ t))).length ((s.H.filter (fun a => decide (a.1 ≤ t))).flatMap (fun a => KR a.2))]).P w' (fun k => o2 k ∨ v.ownBlock = some k) :=
  ⟨o2, _, h4, Sep.one hrow, fun k hk h9 => h6 k h9 hk, fun _ => Iff.rfl⟩
 obtain ⟨own', a1, a2⟩ := h3 w' _ _ hC ⟨fun k hk => hk.elim (h5.at_ k) (fun h9 => .inr (hblk k h9).1), h5.upd⟩
 obtain ⟨oR, o', b1, b2, b3, b4⟩ := Sep.two a1
 refine ⟨v, oR, o', rfl, b1, ?_, b3, a2.sub (fun k hk => (b4 k).2 (.inr hk))⟩
 have e : ∀ (A B C : Comp) (l : List Comp), [A, B] ++ C :: l = [A, B, C] ++ l := fun _ _ _ _ => rfl
 rw [e] at b2
 exact Sep.impsP (w := w') _ (qs L room { s with wn := t, H := s.H.filter (fun a => decide (t < a.1)) }) (fun k _ o hk => hk) _ b2
/-- What is held fast while one rises. -/
theorem fast3 {B v b : Nat} (hv : v < sh.n) (hB : Blk w B #[.int .i64 (v : Nat), .int .u64 (b : Nat)] TR) (ho : ¬ own B) (h1 : TIn w1 own1 L sh room s) (hF : Fol w own w1 own1) :
 w1.cell? ⟨L.b, 0, none⟩ = some (.slice (some ⟨L.g, 0, none⟩) sh.n L.cap) ∧ w1.cell? ⟨L.g, v * 9, none⟩ = some (.int .i64 (sh.par v : Nat)) ∧ w1.cell? ⟨B, 0, none⟩ = some (.int .i64 (v : Nat)) ∧ w1.cell? ⟨B, 1, none⟩ = some (.int .u64 (b : Nat)) := by
 obtain ⟨t0, -⟩ := h1.fields
 obtain ⟨c0, -⟩ := h1.node hv
 obtain ⟨b0, b1, -⟩ := cells2 (hB.kept hF.upd ho)
 exact ⟨t0, c0, b0, b1⟩
theorem kr_at {D : List (Nat × Ri)} {k t v b : Nat} (h : D[k]? = some (t, (v, b))) : (D.flatMap (fun a => KR a.2))[k * 2]? = some (.int .i64 (v : Nat)) ∧ (D.flatMap (fun a => KR a.2))[k * 2 + 1]? = some (.int .u64 (b : Nat)) := by
 induction D generalizing k with
 | nil => simp at h
 | cons a r ih =>
   rw [List.flatMap_cons]
   have hx : (KR a.2).length = 2 := rfl
   cases k with
   | zero =>
     simp only [List.getElem?_cons_zero] at h; cases h
     exact ⟨rfl, rfl⟩
   | succ k =>
     simp only [List.getElem?_cons_succ] at h
     rw [List.getElem?_append_right (by rw [hx]; omega), List.getElem?_append_right (by rw [hx]; omega), hx, show (k + 1) * 2 - 2 = k * 2 by omega, show (k + 1) * 2 + 1 - 2 = k * 2 + 1 by omega]
     exact ih h
theorem pass_ok (hs : sh.Ok) (h : TIn w own L sh room s) (hg : Good sh room s) (hr : room ≤ 4096) (hc : s.c + 5000000 < 18446744073709551615) (hT : TabOff w own) {t : Nat} (ht : t ≤ 18446744073709551615) :
 Calls Tryz.prog 29 #[.pointer (some ⟨L.b, 0, none⟩), .int .u64 (t : Nat)] w fun e w' => e = .returned (.tuple #[]) ∧
  ∃ own', TIn w' own' L sh room (pass sh s t) ∧ Fol w own w' own' := by
 obtain ⟨B, hB⟩ : ∃ B, s.c + 34 * meas s.H = B := ⟨_, rfl⟩
 have hme := hg.meas hs hr
 have hB2 : B + 40 < 18446744073709551615 := by omega
 have hst := On.start hg ht
 obtain ⟨T, hTT⟩ : ∃ T, pass sh s t = T := ⟨_, rfl⟩
 obtain ⟨N, hN⟩ : ∃ N, max s.now t = N := ⟨_, rfl⟩
 rw [hB, hTT, hN] at hst
 rw [hTT]
 obtain ⟨own1, h1, f1⟩ := h.put 2 (.int .u64 (N : Nat)) { s with now := N } (by simp [tcell]) (fun _ => rfl) rfl rfl
 obtain ⟨t0, t1, t2, t3, t4, z⟩ := h.fields
 have z2 := z 2
 obtain ⟨now, hnow⟩ : ∃ now, s.now = now := ⟨_, rfl⟩
 rw [hnow] at t2 hN
 have hM2 : max (now : Int) (t : Int) = (N : Int) := by omega
 have hM4 : (if (now : Int) < (t : Int) then (t : Int) else (now : Int)) = (N : Int) := by split <;> omega
 have hM5 : (if now < t then (t : Int) else (now : Int)) = (N : Int) := by split <;> omega
 have HST := Lib.hid hst
 have H1 := Lib.hid h1
 have F1 := Lib.hid f1
 have HT := Lib.hid (hT.fol f1)
 have HB2 := Lib.hid hB2
 clear h hg hc hT hB hme hB2 hst hTT hN h1 f1 hnow
 go_enter Tryz.func29, Tryz.ntmps29
 go_upto_region 1 with fail
 generalize w.setCell ⟨L.b, 2, none⟩ (.int .u64 (N : Nat)) = wa at *
 clear t0 t1 t2 t3 t4 z z2 hM2 hM4 hM5
 obtain ⟨-, t1, -⟩ := H1.out.fields
 have HNX := Lib.hid (next_ok H1.out HT.out)
 go_wp2_with fail
 refine HNX.out.mono ?_
 rintro e w2 ⟨rfl, u2⟩
 have H2 := Lib.hid (H1.out.old u2)
 have F2 := Lib.hid (F1.out.old u2)
 have HT2 := Lib.hid (HT.out.fol ((Fol.refl _ _).old u2))
 clear t1 HNX u2 H1 F1 HT
 go_wp2_with fail
 go_loopg [4, 5] (meas s.H + 1) (fun gk v4 v5 wr => ∃ sM own2, meas sM.H < gk ∧ v4 = .int .u64 ((nx sM.H).1 : Nat) ∧ v5 = .bool (nx sM.H).2 ∧ TIn wr own2 L sh room sM ∧ Fol w own wr own2 ∧ TabOff wr own2 ∧ On sh room B T sM ∧ sM.now = N)
 case atStart => exact ⟨{ s with now := N }, own1, Nat.lt_succ_self _, rfl, rfl, H2.out, F2.out, HT2.out, HST.out, rfl⟩
 case round =>
  obtain ⟨sM, own2, hgk, rfl, rfl, hTI, hFo, hTo, hOn, hNow⟩ := hrel
  obtain ⟨w2, rfl⟩ : ∃ x, x = wr := ⟨_, rfl⟩
  have H3 := Lib.hid hTI
  have F3 := Lib.hid hFo
  have HT3 := Lib.hid hTo
  have HON := Lib.hid hOn
  have HGK := Lib.hid hgk
  have HNW := Lib.hid hNow
  clear H2 F2 HT2 HST hTI hFo hTo hOn hgk hNow
  obtain ⟨-, t1, t2, -⟩ := H3.out.fields
  rw [HNW.out] at t2
  cases hnx : (nx sM.H).2 with
  | false =>
    have hE := nx_false hnx
    have HE := Lib.hid hE
    clear hE
    obtain ⟨v1, hv1⟩ : ∃ v1, (nx sM.H).1 = v1 := ⟨_, rfl⟩
    rw [hv1]
    clear hv1 hnx
    go_wp2_with fail
    go_end0
    have hT0 := HON.out.done (fun a ha => by rw [HE.out] at ha; cases ha)
    exact ⟨rfl, own2, hT0 ▸ H3.out, F3.out⟩
  | true =>
    obtain ⟨a0, x0, r0, hH, ha0⟩ := nx_true hnx
    rw [ha0]
    clear ha0 hnx
    by_cases hle : a0 ≤ N
    · have d1 : decide ((a0 : Int) ≤ (N : Int)) = true := decide_eq_true (by omega)
      have d2 : decide (a0 ≤ N) = true := decide_eq_true hle
      obtain ⟨q1, q2, q3, q4, q5, q6⟩ := HON.out.due hH (by rw [HNW.out]; exact hle)
      have HDU := Lib.hid (due_ok H3.out HT3.out q1 q2)
      obtain ⟨D, hD⟩ : ∃ D, sM.H.filter (fun a => decide (a.1 ≤ a0)) = D := ⟨_, rfl⟩
      obtain ⟨n, hn⟩ : ∃ n, D.length = n := ⟨_, rfl⟩
      rw [hD] at HDU q3 q4 q5 q6
      rw [hn] at HDU q5
      have HQ3 := Lib.hid q3
      have HQ4 := Lib.hid q4
      have HQ6 := Lib.hid q6
      have HN := Lib.hid hn
      have hle2 : a0 ≤ N := hle
      have hn4 : n ≤ 4096 := by
       have e1 := HON.out.tot
       have e2 := HON.out.le
       have e3 := List.length_filter_le (fun a : Nat × Ri => decide (a.1 ≤ a0)) sM.H
       unfold Tot at e1
       rw [hD, hn] at e3
       omega
      clear q1 q3 q4 q6 hn hD hH hle
      go_wp2_with fail
      refine HDU.out.mono ?_
      rintro e w3 ⟨v, oR, own3, rfl, hrow, hTI, hdis, hFo⟩
      obtain ⟨g, cp, rfl⟩ := rowW_arr hrow q5
      have H4 := Lib.hid hTI
      have F4 := Lib.hid (F3.out.trans hFo)
      have HT4 := Lib.hid (HT3.out.fol hFo)
      have HR4 := Lib.hid hrow
      have HD4 := Lib.hid hdis
      clear HDU hrow hTI hdis hFo t1 t2 d1 d2 H3 F3 HT3
      go_wp2_with fail
      go_loopw [49] (fun i wr => ∃ k : Nat, ∃ sK ownK, i = .int .i64 k ∧ k ≤ n ∧ TIn wr ownK L sh room sK ∧ Fol w own wr ownK ∧ TabOff wr ownK ∧ On sh room B T (ahead (D.drop k) sK) ∧ sK.wn = a0 ∧ sK.now = N ∧ (rowW TI 2 (.slice (some ⟨g, 0, none⟩) n cp) n (D.flatMap (fun a => KR a.2))).P wr oR ∧ (∀ k, oR k → ¬ ownK k) ∧ k + meas (ahead (D.drop k) sK).H ≤ meas sM.H) (fun i _ => n - (intOf i).toNat)
      case atStart => exact ⟨0, _, own3, rfl, Nat.zero_le _, H4.out, F4.out, HT4.out, HQ3.out, rfl, HNW.out, HR4.out, HD4.out, by have := HQ6.out; simp only [List.drop_zero]; omega⟩
      case round =>
       obtain ⟨k, sK, ownK, rfl, hk, hTI, hFo, hTo, hOn, hWn, hNo, hRo, hDi, hMe⟩ := hrel
       obtain ⟨wB, rfl⟩ : ∃ x, x = wr := ⟨_, rfl⟩
       by_cases hlt : k < n
       · have hI : (k : Int) < n := by omega
         obtain ⟨e, he⟩ : ∃ e, D[k]? = some e := ⟨D[k]'(by rw [HN.out]; exact hlt), by simp⟩
         obtain ⟨a1, v, b⟩ := e
         have ha1 : a1 = a0 := HQ4.out _ (List.mem_of_getElem? he)
         subst ha1
         have hdr : D.drop k = (a1, (v, b)) :: D.drop (k + 1) := by
          have hlt' : k < D.length := by rw [HN.out]; exact hlt
          rw [List.drop_eq_getElem_cons hlt']
          rw [List.getElem?_eq_getElem hlt'] at he
          rw [Option.some.inj he]
         rw [hdr] at hOn hMe
         obtain ⟨p1, p2, p3, p4, p5, p6, p7, p8, p9, p10, p11, p12, p13⟩ := hOn.step hs (fun a ha => HQ4.out a (List.mem_of_mem_drop ha)) hWn (by rw [hNo]; exact hle2) HB2.out
         obtain ⟨r1, _⟩ := rowW_cell hRo (kr_at he).1
         obtain ⟨r2, _⟩ := rowW_cell hRo (kr_at he).2
         have r2' : wB.cell? ⟨g, (k * 2 + 1), none⟩ = some (.int .u64 (b : Nat)) := r2
         have hno : ¬ ownK wB.heap.size := fun h9 => absurd (hTI.lt h9) (Nat.lt_irrefl _)
         obtain ⟨h7, hB7⟩ := hTI.box #[.int .i64 (v : Nat), .int .u64 (b : Nat)] TR
         obtain ⟨w7, hw7⟩ : ∃ w7, w7 = wB.alloc (.cells #[.int .i64 (v : Nat), .int .u64 (b : Nat)] TR) := ⟨_, rfl⟩
         have u7 : Upd Nowhere wB w7 := by rw [hw7]; exact (Upd.refl _ _).alloc _
         rw [← hw7] at h7 hB7
         have H7 := Lib.hid h7
         have HB7 := Lib.hid hB7
         have HNO := Lib.hid hno
         have F7 := Lib.hid (hFo.old u7)
         have HT7 := Lib.hid (hTo.fol ((Fol.refl _ _).old u7))
         have HR7 := Lib.hid ((rowW TI 2 (.slice (some ⟨g, 0, none⟩) n cp) n (D.flatMap (fun a => KR a.2))).kp hRo u7 (fun _ _ h => h))
         have HD7 := Lib.hid hDi
         have P4 := Lib.hid p4
         have P7 := Lib.hid p7
         have P10 := Lib.hid p10
         have P11 := Lib.hid p11
         have P12 := Lib.hid (p12.trans hNo)
         have P13 : Hid (k + 1 + meas (ahead (D.drop (k + 1)) (come sh 32 sK a1 (sh.par v) (chi v) b)).H ≤ meas sM.H) := Lib.hid (by omega)
         have hvn : (v : Int) < (sh.n : Int) := by omega
         clear hTI hFo hTo hOn hWn hNo hRo hDi hMe H4 F4 HT4 HR4 HD4 HQ3 HQ6 h7 hB7 hno u7 p4 p7 p10 p11 p12 p13 he hdr
         obtain ⟨BU, hBU⟩ : ∃ BU, wB.heap.size = BU := ⟨_, rfl⟩
         rw [hBU] at HB7 HNO
         go_upto_region 7 with fail
         generalize wB.alloc (.cells #[.int .i64 (v : Nat), .int .u64 (b : Nat)] TR) = wz at hw7 ⊢
         subst hw7
         try simp only [hBU]
         have HCO := fun (u : World) (o : Nat → Prop) (hu : TIn u o L sh room sK) => Lib.hid (come_ok hs 32 hu P7.out (i := sh.par v) p3 p2 P4.out p5 p6 v (.inr p1) 0 0 0 (by omega) a1 p9 b p8)
         have HD8 := Lib.hid (H7.out.old ((Upd.refl Nowhere w7).drew))
         have F8 := Lib.hid ((Fol.refl w7 ownK).old ((Upd.refl Nowhere w7).drew))
         have hS0 := fast3 p1 HB7.out HNO.out HD8.out F8.out
         clear r1 r2 r2' hBU
         go_region_held3 (fun w' => w'.cell? ⟨L.b, 0, none⟩ = some (.slice (some ⟨L.g, 0, none⟩) sh.n L.cap) ∧ w'.cell? ⟨L.g, v * 9, none⟩ = some (.int .i64 (sh.par v : Nat)) ∧ w'.cell? ⟨BU, 0, none⟩ = some (.int .i64 (v : Nat)) ∧ w'.cell? ⟨BU, 1, none⟩ = some (.int .u64 (b : Nat))) (first | exact hS0 | assumption) (first
          | (go_at_call 40; refine (HCO _ _ HD8.out).out.mono ?_; rintro e w9 ⟨rfl, own9, h9, f9⟩; have g9 := F8.out.trans f9; have hS9 := fast3 p1 HB7.out HNO.out h9 g9))
         all_goals
          have H9 := Lib.hid h9
          have F9 := Lib.hid (F7.out.trans g9)
          have HT9 := Lib.hid (HT7.out.fol g9)
          have HD9 : Hid (∀ k, oR k → ¬ own9 k) := Lib.hid (fun q hq h8 => (g9.at_ q h8).elim (HD7.out q hq) (fun h7 => absurd ((rowW TI 2 (.slice (some ⟨g, 0, none⟩) n cp) n (D.flatMap (fun a => KR a.2))).lt HR7.out hq) (Nat.not_lt.2 h7)))
          have HR9 := Lib.hid ((rowW TI 2 (.slice (some ⟨g, 0, none⟩) n cp) n (D.flatMap (fun a => KR a.2))).kp HR7.out g9.upd HD7.out)
          clear h9 g9 f9 hS0 hS9 HD8 F8 HCO H7 F7 HT7 HR7 HD7
          go_wp2_with fail
          go_roundw
          case rel => exact ⟨k + 1, _, own9, by first | rfl | go_num, by omega, H9.out, F9.out, HT9.out, P10.out, P11.out, P12.out, HR9.out, HD9.out, P13.out⟩
          case measure => simp [intOf]; omega
       · obtain rfl : k = n := by omega
         have hI : ¬ (k : Int) < k := by omega
         rw [List.drop_eq_nil_of_le (by rw [HN.out]; exact Nat.le_refl _)] at hOn hMe
         have H5 := Lib.hid hTI
         have F5 := Lib.hid hFo
         have HT5 := Lib.hid hTo
         have HO5 : Hid (On sh room B T sK) := Lib.hid hOn
         have HM5 : Hid (k + meas sK.H ≤ meas sM.H) := Lib.hid hMe
         have HN5 := Lib.hid hNo
         clear hTI hFo hTo hOn hWn hNo hRo hDi hMe H4 F4 HT4 HR4 HD4 HQ3 HQ6
         obtain ⟨-, t1, -⟩ := H5.out.fields
         have HNX := Lib.hid (next_ok H5.out HT5.out)
         go_wp2_with fail
         refine HNX.out.mono ?_
         rintro e w6 ⟨rfl, u6⟩
         have H6 := Lib.hid (H5.out.old u6)
         have F6 := Lib.hid (F5.out.old u6)
         have HT6 := Lib.hid (HT5.out.fol ((Fol.refl _ _).old u6))
         clear t1 HNX u6 H5 F5 HT5
         go_wp2_with fail
         go_roundg (meas sK.H + 1)
         case rel => exact ⟨sK, ownK, Nat.lt_succ_self _, rfl, rfl, H6.out, F6.out, HT6.out, HO5.out, HN5.out⟩
         case measure => have h1 := HM5.out; have h2 := HGK.out; omega
    · have d1 : decide ((a0 : Int) ≤ (N : Int)) = false := decide_eq_false (by omega)
      have d2 : decide (a0 ≤ N) = false := decide_eq_false hle
      have hstl : Still sM := still_of HON.out.bal.hr hH (by rw [HNW.out]; omega)
      have HSL := Lib.hid hstl
      clear hle hH hstl
      go_wp2_with fail
      go_end0
      have hT0 := HON.out.done HSL.out
      exact ⟨rfl, own2, hT0 ▸ H3.out, F3.out⟩
end
end Go.Proofs.YtpgpjjkeginbbaaGreatDoor.Tree
namespace Go.Proofs.YtpgpjjkeginbbaaGreatDoor.Tree
open Go.RowKit Go.Proofs BigFrame
set_option maxHeartbeats 4000000
set_option maxRecDepth 1000000
abbrev TPk : TypeId := 44
abbrev zp : Array Value := #[.int .u32 0, .int .u32 0, .int .u64 0]
abbrev TPt : TypeId := 37
end Go.Proofs.YtpgpjjkeginbbaaGreatDoor.Tree
namespace Go.Proofs.YtpgpjjkeginbbaaGreatDoor.Tree
open Go.RowKit Go.Proofs BigFrame
open HeapE (El VE)
open WheelR (Ri)
open Cal (ins)
set_option maxHeartbeats 4000000
set_option maxRecDepth 1000000
abbrev pcell (a b c : Nat) : Array Value := #[.int .u32 a, .int .u32 b, .int .u64 c]
section
variable {w w' w1 : World} {own own' own1 : Nat → Prop} {L : Lay} {sh : Sh} {room : Nat} {s : TS}
theorem Good.lens (h : Good sh room s) (hs : sh.Ok) (hm : s.m < room) : (∀ v, v < sh.n → (s.q v).length < room) ∧ s.H.length < room := by
 have ht := h.tot
 have h1 : Tot { s with m := s.m + 1 } 1 := by unfold Tot at ht ⊢; show s.m + 1 = (s.q 0).length + s.H.length + 1; omega
 have h2 := (m_bal h.bal (s.m + 1)).room hs h1 (room := room) (i := sh.n) hm (.inl rfl)
 unfold Tot at ht
 exact ⟨fun v hv => h2 v (by omega) hv, by omega⟩
/-- What is held fast while a packet comes. -/
theorem fast4 {B a b c : Nat} (hB : Blk w B (pcell a b c) TPk) (ho : ¬ own B) (h1 : TIn w1 own1 L sh room s) (hF : Fol w own w1 own1) :
 w1.cell? ⟨B, 0, none⟩ = some (.int .u32 a) ∧ w1.cell? ⟨B, 1, none⟩ = some (.int .u32 b) ∧ w1.cell? ⟨B, 2, none⟩ = some (.int .u64 c) ∧ w1.cell? ⟨L.b, 2, none⟩ = some (.int .u64 (s.now : Nat)) := by
 obtain ⟨-, -, t2, -⟩ := h1.fields
 obtain ⟨b0, b1, b2, -⟩ := cells3 (hB.kept hF.upd ho)
 exact ⟨b0, b1, b2, t2⟩
theorem push_ok (hs : sh.Ok) (h : TIn w own L sh room s) (hg : Good sh room s) (hr : room ≤ 4096) (hc : s.c + 10000000 < 18446744073709551615) (hT : TabOff w own) {t : Nat} (ht : t ≤ 18446744073709551615) (leaf : Int) (a b c : Nat) (ha : a < 4294967296) (hb : b < 4294967296) (hcc : c ≤ 18446744073709551615) :
 Calls Tryz.prog 11 #[.pointer (some ⟨L.b, 0, none⟩), .int .u64 (t : Nat), .int .i64 leaf, .agg (pcell a b c)] w fun e w' => e = .returned (.int .i64 ((push sh room s t leaf (a, b, c)).1 : Nat)) ∧
  ∃ own', TIn w' own' L sh room (push sh room s t leaf (a, b, c)).2 ∧ Fol w own w' own' := by
 obtain ⟨R, hR⟩ : ∃ R, push sh room s t leaf (a, b, c) = R := ⟨_, rfl⟩
 rw [hR]
 unfold push at hR
 simp only at hR
 have hgp := pass_good hs hg ht
 have hcp := (pass_bal hs hg.bal ht).2.2.2.2.2.2
 have hme := hg.meas hs hr
 have hP := fun (u : World) (o : Nat → Prop) (hu : TIn u o L sh room s) (hTu : TabOff u o) => Lib.hid (pass_ok hs hu hg hr (by omega) hTu ht)
 obtain ⟨s1, hs1⟩ : ∃ s1, pass sh s t = s1 := ⟨_, rfl⟩
 rw [hs1] at hP hR hgp hcp
 obtain ⟨h1, hB⟩ := h.box (pcell a b c) TPk
 obtain ⟨w0, hw0⟩ : ∃ w0, w0 = w.alloc (.cells (pcell a b c) TPk) := ⟨_, rfl⟩
 have hno : ¬ own w.heap.size := fun h9 => absurd (h.lt h9) (Nat.lt_irrefl _)
 have f0 : Fol w own w0 own := (Fol.refl _ _).old (by rw [hw0]; exact (Upd.refl _ _).alloc _)
 rw [← hw0] at h1 hB
 have hn1 := hs.pos
 have hn2 := hs.le
 obtain ⟨n, hn⟩ : ∃ n, sh.n = n := ⟨_, rfl⟩
 obtain ⟨t0, -⟩ := h1.fields
 obtain ⟨PB, hPB⟩ : ∃ PB, w.heap.size = PB := ⟨_, rfl⟩
 rw [hPB] at hB hno
 have HPA := Lib.hid (hP _ _ h1 (hT.fol f0)).out
 have F0 := Lib.hid f0
 have HT0 := Lib.hid hT
 have HB := Lib.hid hB
 have HNO := Lib.hid hno
 have HG := Lib.hid hgp
 have HC : Hid (s1.c + 5000100 < 18446744073709551615) := Lib.hid (by omega)
 have HRR := Lib.hid hR
 have hz : ((n : Int) == 0) = false := by simp; omega
 rw [hn] at t0 hn1 hn2
 have HN := Lib.hid hn
 clear h hg hc hT h1 hB hno f0 hgp hcp hme hP hs1 hR hn
 go_enter Tryz.func11, Tryz.ntmps11
 go_upto_region 1 with fail
 generalize w.alloc (.cells (pcell a b c) TPk) = wz at hw0 ⊢
 subst hw0
 try simp only [hPB]
 go_wp2_with fail
 refine HPA.out.mono ?_
 rintro e w1 ⟨rfl, own1, h1, f1⟩
 have F1 := Lib.hid (F0.out.trans f1)
 obtain ⟨t0, t1, t2, t3, t4, -⟩ := h1.fields
 obtain ⟨b0, b1, b2, -⟩ := cells3 (HB.out.kept f1.upd HNO.out)
 have H1 := Lib.hid h1
 have HB1 := Lib.hid (HB.out.kept f1.upd HNO.out)
 have hno1 : ¬ own1 PB := fun h9 => (f1.at_ _ h9).elim HNO.out (fun h8 => absurd HB.out.lt (Nat.not_lt.2 h8))
 have HNO1 := Lib.hid hno1
 rw [HN.out] at t0
 clear h1 f1 hno1 HPA F0 HB HNO
 by_cases hl : leaf < 0 ∨ (n : Int) ≤ leaf
 · have hR := HRR.out
   rw [if_pos (by rw [HN.out]; exact hl)] at hR
   subst hR
   rcases Classical.em (leaf < 0) with hl0 | hl0
   · have d1 : decide (leaf < 0) = true := decide_eq_true hl0
     clear HRR
     go_wp2_with fail
     go_ret
     exact ⟨rfl, own1, H1.out, F1.out⟩
   · have d1 : decide (leaf < 0) = false := decide_eq_false hl0
     have d2 : decide (leaf ≥ (n : Int)) = true := decide_eq_true (by omega)
     have d3 : decide ((n : Int) ≤ leaf) = true := decide_eq_true (by omega)
     clear HRR
     go_wp2_with fail
     go_ret
     exact ⟨rfl, own1, H1.out, F1.out⟩
 · obtain ⟨i, rfl⟩ : ∃ i : Nat, leaf = i := ⟨leaf.toNat, by omega⟩
   have hi : i < n := by omega
   have hi2 : i < sh.n := by rw [HN.out]; exact hi
   have hR := HRR.out
   rw [if_neg (by rw [HN.out]; exact hl)] at hR
   rw [Int.toNat_natCast] at hR
   have d1 : decide ((i : Int) < 0) = false := decide_eq_false (by omega)
   have d2 : decide ((i : Int) ≥ (n : Int)) = false := decide_eq_false (by omega)
   have d3 : decide ((n : Int) ≤ (i : Int)) = false := decide_eq_false (by omega)
   have d4 : decide (n ≤ i) = false := decide_eq_false (by omega)
   have hI : (i : Int) < n := by omega
   obtain ⟨n0, n1, n2, n3, n4, -⟩ := H1.out.node hi2
   obtain ⟨lf, hlf⟩ : ∃ lf, sh.leaf i = lf := ⟨_, rfl⟩
   rw [hlf] at hR n4
   have HLF := Lib.hid hlf
   clear hl hlf HRR
   cases lf with
   | false =>
     rw [if_pos rfl] at hR
     subst hR
     go_wp2_with fail
     go_ret
     exact ⟨rfl, own1, H1.out, F1.out⟩
   | true =>
     rw [if_neg (by simp)] at hR
     by_cases hcl : c = 0 ∨ 65535 < c
     · rw [if_pos hcl] at hR
       subst hR
       by_cases hc0 : c = 0
       · have q0 : ((c : Int) == 0) = true := by simp; omega
         clear hcl hc0
         go_wp2_with fail
         go_ret
         exact ⟨rfl, own1, H1.out, F1.out⟩
       · have q0 : ((c : Int) == 0) = false := by simp; omega
         have q1 : decide ((c : Int) > 65535) = true := decide_eq_true (by omega)
         have q2 : decide (65535 < c) = true := decide_eq_true (by omega)
         clear hcl hc0
         go_wp2_with fail
         go_ret
         exact ⟨rfl, own1, H1.out, F1.out⟩
     · rw [if_neg hcl] at hR
       have q0 : ((c : Int) == 0) = false := by simp; omega
       have q1 : decide ((c : Int) > 65535) = false := decide_eq_false (by omega)
       have q2 : decide (65535 < c) = false := decide_eq_false (by omega)
       have hc1 : c ≤ 65535 := by omega
       clear hcl
       obtain ⟨m, hm⟩ : ∃ m, s1.m = m := ⟨_, rfl⟩
       rw [hm] at t3
       by_cases hful : room ≤ m
       · rw [if_pos (by rw [hm]; exact hful)] at hR
         subst hR
         have r1 : decide ((m : Int) ≥ (room : Int)) = true := decide_eq_true (by omega)
         have r2 : decide (room ≤ m) = true := decide_eq_true hful
         clear hm hful
         go_upto_region 10 with fail
         go_quiet (fail)
         go_wp2_with fail
         go_ret
         exact ⟨rfl, own1, H1.out.old ((Upd.refl _ _).drewN _), F1.out.drewN _⟩
       · rw [if_neg (by rw [hm]; exact hful)] at hR
         have r1 : decide ((m : Int) ≥ (room : Int)) = false := decide_eq_false (by omega)
         have r2 : decide (room ≤ m) = false := decide_eq_false hful
         have HMM := Lib.hid hm
         have HRR := Lib.hid hR
         have hml : m < room := by omega
         clear hm hful hR
         obtain ⟨m1, hm1⟩ : ∃ m1, m + 1 = m1 := ⟨_, rfl⟩
         have hm2 : (m : Int) + 1 = (m1 : Int) := by omega
         have hm3 : m1 ≤ 4096 := by omega
         have HM1 := Lib.hid hm1
         clear hm1
         go_upto_region 10 with fail
         go_quiet (fail)
         have H2 := Lib.hid (H1.out.old ((Upd.refl Nowhere w1).drewN nq))
         have F2 := Lib.hid (F1.out.drewN nq)
         have HB2 := Lib.hid (HB1.out.drewN nq)
         clear t0 t1 t2 t3 t4 b0 b1 b2 n0 n1 n2 n3 n4 H1 F1 HB1
         generalize w1.drewN nq = w2 at *
         obtain ⟨t0, t1, t2, t3, t4, z⟩ := H2.out.fields
         rw [HMM.out] at t3
         have z3 := z 3
         obtain ⟨own3, h3, f3⟩ := H2.out.put 3 (.int .i64 (m1 : Nat)) { s1 with m := s1.m + 1 } (by simp [tcell, HMM.out, HM1.out]) (fun _ => rfl) rfl rfl
         have H3 := Lib.hid h3
         have F3 := Lib.hid (F2.out.trans f3)
         have HB3 := Lib.hid (HB2.out.kept f3.upd HNO1.out)
         have hno3 : ¬ own3 PB := fun h9 => (f3.at_ _ h9).elim HNO1.out (fun h8 => absurd HB2.out.lt (Nat.not_lt.2 h8))
         have HNO3 := Lib.hid hno3
         clear h3 f3 hno3 z
         go_upto_region 13 with fail
         generalize w2.setCell ⟨L.b, 3, none⟩ (.int .i64 (m1 : Nat)) = w3 at *
         clear t0 t1 t2 t3 t4 z3 H2 F2 HB2
         have hlens := HG.out.lens hs (by rw [HMM.out]; exact hml)
         obtain ⟨g1, g2, g3, g4⟩ := came_good hs HG.out hi2 HLF.out (e := ((0 : Int), a, b, c)) ⟨rfl, ha, hb, hc1⟩ (by rw [HMM.out]; exact hml)
         have hnw := HG.out.bal.now.2
         have hCO := fun (u : World) (o : Nat → Prop) (hu : TIn u o L sh room { s1 with m := s1.m + 1 }) => Lib.hid (come_ok hs 32 hu ⟨g1.fit.vi, g1.fit.tg, g1.fit.fr⟩ (i := i) (by omega) hi2 (fun v hv => hlens.1 v (by omega)) hlens.2 (show s1.c + 32 + 2 < _ by have := HC.out; omega) 0 (.inl HLF.out) a b c ha s1.now hnw c hcc)
         obtain ⟨s3, hs3⟩ : ∃ s3, come sh 32 { s1 with m := s1.m + 1 } s1.now i ((0 : Int), a, b, c) c = s3 := ⟨_, rfl⟩
         have hs3' : come sh 32 { s1 with m := s1.m + 1 } s1.now i (((0 : Nat) : Int), a, b, c) c = s3 := hs3
         change Good sh room (come sh 32 { s1 with m := s1.m + 1 } s1.now i ((0 : Int), a, b, c) c) at g3
         change Came _ (come sh 32 { s1 with m := s1.m + 1 } s1.now i ((0 : Int), a, b, c) c) i at g4
         have hR3 := HRR.out
         change (0, pass sh (come sh 32 { s1 with m := s1.m + 1 } s1.now i ((0 : Int), a, b, c) c) s1.now) = R at hR3
         rw [hs3] at g3 g4 hR3
         rw [hs3'] at hCO
         have HG3 := Lib.hid g3
         have HN3 : Hid (s3.now = s1.now) := Lib.hid g4.now
         have HC3 : Hid (s3.c + 5000000 < 18446744073709551615) := Lib.hid (by have h1 := g4.c1; have h2 := HC.out; change s3.c ≤ s1.c + i + 2 at h1; omega)
         have HR3 := Lib.hid hR3
         have HNW := Lib.hid hnw
         have HD := Lib.hid (H3.out.old ((Upd.refl Nowhere w3).drew))
         have F4 := Lib.hid ((Fol.refl w3 own3).old ((Upd.refl Nowhere w3).drew))
         have hS0 := fast4 HB3.out HNO3.out HD.out F4.out
         change _ ∧ _ ∧ _ ∧ w3.drew.cell? ⟨L.b, 2, none⟩ = some (.int .u64 (s1.now : Nat)) at hS0
         clear hlens g1 g2 g3 g4 hs3 hs3' hR3 hnw HRR
         have hvn : (i : Int) < (sh.n : Int) := by omega
         go_region_held3 (fun w' => w'.cell? ⟨PB, 0, none⟩ = some (.int .u32 a) ∧ w'.cell? ⟨PB, 1, none⟩ = some (.int .u32 b) ∧ w'.cell? ⟨PB, 2, none⟩ = some (.int .u64 c) ∧ w'.cell? ⟨L.b, 2, none⟩ = some (.int .u64 (s1.now : Nat))) (first | exact hS0 | assumption) (first
          | (go_at_call 40; refine (hCO _ _ HD.out).out.mono ?_; rintro e w5 ⟨rfl, own5, h5, f5⟩; have g5 := F4.out.trans f5; have hS5 : w5.cell? ⟨PB, 0, none⟩ = some (.int .u32 a) ∧ w5.cell? ⟨PB, 1, none⟩ = some (.int .u32 b) ∧ w5.cell? ⟨PB, 2, none⟩ = some (.int .u64 c) ∧ w5.cell? ⟨L.b, 2, none⟩ = some (.int .u64 (s1.now : Nat)) := HN3.out ▸ fast4 HB3.out HNO3.out h5 g5))
         all_goals
          have H5 := Lib.hid h5
          have F5 := Lib.hid (F3.out.trans g5)
          obtain ⟨-, -, -, t2⟩ := hS5
          clear h5 f5 g5 hS0 HD F4 hCO H3 F3
          have HPA := Lib.hid (pass_ok hs H5.out HG3.out hr HC3.out (HT0.out.fol F5.out) HNW.out)
          go_wp2_with fail
          refine HPA.out.mono ?_
          rintro e w6 ⟨rfl, own6, h6, f6⟩
          go_wp2_with fail
          go_ret
          have hR := HR3.out
          subst hR
          exact ⟨rfl, own6, h6, F5.out.trans f6⟩
end
end Go.Proofs.YtpgpjjkeginbbaaGreatDoor.Tree

