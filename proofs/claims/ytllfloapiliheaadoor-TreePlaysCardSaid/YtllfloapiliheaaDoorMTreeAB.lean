/- TreeActs, TreeBack, one behind the other. -/
import Derived.Test.YtllfloapiliheaaDoorMTree
import Derived.Test.YtllfloapiliheaaDoorOpen
namespace Go.Proofs.YtllfloapiliheaaDoor.Tree
open Go.RowKit Go.Proofs BigFrame
set_option maxHeartbeats 1000000
theorem flatW_at {α β : Type} {W : Nat} (f : α → List β) (hf : ∀ a, (f a).length = W) : ∀ {l : List α} {k : Nat} {a : α}, l[k]? = some a → ∀ {j : Nat}, j < W → (l.flatMap f)[k * W + j]? = (f a)[j]?
  | [], _, _, h, _, _ => by simp at h
  | x :: r, k, a, h, j, hj => by
    rw [List.flatMap_cons]
    cases k with
    | zero =>
      simp only [List.getElem?_cons_zero] at h; cases h
      rw [Nat.zero_mul, Nat.zero_add, List.getElem?_append_left (by rw [hf]; exact hj)]
    | succ k =>
      simp only [List.getElem?_cons_succ] at h
      have e : (k + 1) * W = k * W + W := Nat.succ_mul k W
      rw [List.getElem?_append_right (by rw [hf]; omega), hf, show (k + 1) * W + j - W = k * W + j by omega]
      exact flatW_at f hf h hj
/-- What is done. -/
structure Act where
  pop : Bool
  later : Nat
  node : Int
  fl : Nat
  id : Nat
  len : Nat
abbrev TAct : TypeId := 40
abbrev actA (a : Act) : Array Value := #[.bool a.pop, .int .u64 a.later, .int .i64 a.node, .int .u32 a.fl, .int .u32 a.id, .int .u64 a.len]
def act (a : Act) : List Value := [.bool a.pop, .int .u64 a.later, .int .i64 a.node, .int .u32 a.fl, .int .u32 a.id, .int .u64 a.len]
def Act.Ok (a : Act) : Prop := a.later ≤ 18446744073709551615 ∧ a.fl < 4294967296 ∧ a.id < 4294967296 ∧ a.len ≤ 18446744073709551615
structure Acts (w : World) (ad : Option Addr) (l : List Act) : Prop where
  none : ad = Option.none → l.length = 0
  at_ : ∀ b, ad = some b → ∀ (j : Nat) (v : Value), (l.flatMap act)[j]? = some v → b.spot = Option.none ∧ w.cell? ⟨b.block, b.off + j, Option.none⟩ = some v
theorem Acts.get {w wB : World} {ad : Option Addr} {l : List Act} (h : Acts w ad l) (hu : Upd Nowhere w wB) {k : Nat} {a : Act} (hx : l[k]? = some a) : ∃ ga oa, ad = some ⟨ga, oa, Option.none⟩ ∧
    (wB.cell? ⟨ga, oa + k * 6, Option.none⟩ = some (.bool a.pop) ∧ wB.cell? ⟨ga, oa + k * 6 + 1, Option.none⟩ = some (.int .u64 a.later) ∧ wB.cell? ⟨ga, oa + k * 6 + 2, Option.none⟩ = some (.int .i64 a.node) ∧ wB.cell? ⟨ga, oa + k * 6 + 3, Option.none⟩ = some (.int .u32 a.fl) ∧ wB.cell? ⟨ga, oa + k * 6 + 4, Option.none⟩ = some (.int .u32 a.id) ∧ wB.cell? ⟨ga, oa + k * 6 + 5, Option.none⟩ = some (.int .u64 a.len)) ∧
    (wB.cell? ⟨ga, oa + (k * 6 + 1), Option.none⟩ = some (.int .u64 a.later) ∧ wB.cell? ⟨ga, oa + (k * 6 + 2), Option.none⟩ = some (.int .i64 a.node) ∧ wB.cell? ⟨ga, oa + (k * 6 + 3), Option.none⟩ = some (.int .u32 a.fl) ∧ wB.cell? ⟨ga, oa + (k * 6 + 4), Option.none⟩ = some (.int .u32 a.id) ∧ wB.cell? ⟨ga, oa + (k * 6 + 5), Option.none⟩ = some (.int .u64 a.len)) := by
  have hlt : k < l.length := by
    rcases Nat.lt_or_ge k l.length with h' | h'
    · exact h'
    · rw [List.getElem?_eq_none h'] at hx; cases hx
  cases ad with
  | none => have := h.none rfl; omega
  | some b =>
    have at_ : ∀ j v, j < 6 → (act a)[j]? = some v → (l.flatMap act)[k * 6 + j]? = some v := fun j v hj hv => by rw [flatW_at act (fun _ => rfl) hx hj]; exact hv
    have hs := (h.at_ b rfl _ _ (at_ 0 _ (by omega) rfl)).1
    obtain ⟨g, o, sp⟩ := b
    simp only at hs
    subst hs
    have r := fun j v (hj : j < 6) (hv : (act a)[j]? = some v) => cell_old hu (h.at_ _ rfl _ _ (at_ j v hj hv)).2
    refine ⟨g, o, rfl, ⟨r 0 _ (by omega) rfl, ?_, ?_, ?_, ?_, ?_⟩, r 1 _ (by omega) rfl, r 2 _ (by omega) rfl, r 3 _ (by omega) rfl, r 4 _ (by omega) rfl, r 5 _ (by omega) rfl⟩
    · rw [Nat.add_assoc]; exact r 1 _ (by omega) rfl
    · rw [Nat.add_assoc]; exact r 2 _ (by omega) rfl
    · rw [Nat.add_assoc]; exact r 3 _ (by omega) rfl
    · rw [Nat.add_assoc]; exact r 4 _ (by omega) rfl
    · rw [Nat.add_assoc]; exact r 5 _ (by omega) rfl
def nd (a : Nd) : List Value := [.int .i64 a.par, .int .i64 a.kind, .int .u64 a.wt, .int .u64 a.gap]
theorem nodes_of {w : World} {v : Value} {l : List Nd} (h : RowsAt w v l.length (l.flatMap nd)) : ∃ ad c, v = .slice ad l.length c ∧ NodesAt w ad l := by
  obtain ⟨ad, ca, rfl, h0, _, hca, hc⟩ := h
  refine ⟨ad, ca, rfl, fun h => (h0 h).1, fun b hb hl => ?_⟩
  subst hb
  have r := fun j v (hv : (l.flatMap nd)[j]? = some v) => hc b rfl j v hv
  have at_ : ∀ i a j v, l[i]? = some a → j < 4 → (nd a)[j]? = some v → (l.flatMap nd)[i * 4 + j]? = some v := fun i a j v hi hj hv => by rw [flatW_at nd (fun _ => rfl) hi hj]; exact hv
  have h1 : l[0]? = some (l[0]'hl) := List.getElem?_eq_getElem hl
  have hs := (r _ _ (at_ 0 _ 0 _ h1 (by omega) rfl)).1
  obtain ⟨g, o, sp⟩ := b
  simp only at hs
  subst hs
  refine ⟨rfl, fun i a ha => ⟨(r _ _ (at_ i a 0 _ ha (by omega) rfl)).2, ?_, ?_, ?_⟩⟩
  · rw [Nat.add_assoc]; exact (r _ _ (at_ i a 1 _ ha (by omega) rfl)).2
  · rw [Nat.add_assoc]; exact (r _ _ (at_ i a 2 _ ha (by omega) rfl)).2
  · rw [Nat.add_assoc]; exact (r _ _ (at_ i a 3 _ ha (by omega) rfl)).2
theorem acts_of {w : World} {v : Value} {l : List Act} (h : RowsAt w v l.length (l.flatMap act)) : ∃ ad c, v = .slice ad l.length c ∧ Acts w ad l := by
  obtain ⟨ad, ca, rfl, h0, _, hca, hc⟩ := h
  exact ⟨ad, ca, rfl, fun h => (h0 h).1, hc⟩
end Go.Proofs.YtllfloapiliheaaDoor.Tree
namespace Go.Proofs.YtllfloapiliheaaDoor.Tree
open Go.RowKit Go.Proofs BigFrame
set_option maxHeartbeats 4000000
set_option maxRecDepth 1000000
section
variable {sh : Sh} {room : Nat} {s : TS}
theorem pass_now {t t' : Nat} (h : max s.now t = max s.now t') : pass sh s t = pass sh s t' := by unfold pass; rw [h]
theorem push_same {t t' : Nat} (h : max s.now t = max s.now t') (leaf : Int) (p : Nat × Nat × Nat) : push sh room s t leaf p = push sh room s t' leaf p := by unfold push; rw [pass_now h]
theorem pop_same {t t' : Nat} (h : max s.now t = max s.now t') : pop sh s t = pop sh s t' := by unfold pop; rw [pass_now h]
theorem push_at (hs : sh.Ok) (h : Good sh room s) {t : Nat} (ht : t ≤ 18446744073709551615) (leaf : Int) (p : Nat × Nat × Nat) (hp1 : p.1 < 4294967296) (hp2 : p.2.1 < 4294967296) : (push sh room s t leaf p).2.now = max s.now t := by
  have h1 := pass_good hs h ht
  have hn := (pass_bal hs h.bal ht).2.2.1
  unfold push
  simp only
  split
  · exact hn
  · rename_i ha
    have hi : leaf.toNat < sh.n := by omega
    split
    · exact hn
    · rename_i hb
      have hl : sh.leaf leaf.toNat = true := by revert hb; cases sh.leaf leaf.toNat <;> simp
      split
      · exact hn
      · rename_i hc
        split
        · exact hn
        · rename_i hd
          obtain ⟨_, _, b1, b2⟩ := came_good hs h1 hi hl (e := ((0 : Int), p)) ⟨rfl, hp1, hp2, by show p.2.2 ≤ 65535; omega⟩ (by omega)
          have h9 := (pass_bal hs b1.bal h1.bal.now.2).2.2.1
          show (pass sh (come sh 32 { pass sh s t with m := (pass sh s t).m + 1 } (pass sh s t).now leaf.toNat ((0 : Int), p) p.2.2) (pass sh s t).now).now = _
          rw [h9, b2.now]
          show max (pass sh s t).now (pass sh s t).now = _
          rw [hn]; omega
theorem pop_at (hs : sh.Ok) (h : Good sh room s) {t : Nat} (ht : t ≤ 18446744073709551615) : (pop sh s t).2.2.now = max s.now t := by
  have h1 := pass_good hs h ht
  have hn := (pass_bal hs h.bal ht).2.2.1
  unfold pop
  simp only
  split
  · exact hn
  · split
    · exact hn
    · rename_i hb
      have hle := hs.le
      have a3 := (down_bal hs 32 (s := { pass sh s t with m := (pass sh s t).m - 1 }) (x := 0) (by omega) (m_bal h1.bal _) hs.pos hb).2.2.1
      show (down sh 32 { pass sh s t with m := (pass sh s t).m - 1 } 0).2.now = _
      rw [a3.now]; exact hn
end
theorem far_ok (ad : Option Addr) (n c : Nat) (ad2 : Option Addr) (m c2 : Nat) (w : World) : Calls Tryd.prog 15 #[.slice ad n c, .slice ad2 m c2] w fun e w' => e = .returned (.bool (decide (40 < n ∨ 150 < m))) ∧ w = w' := by
  by_cases h : 40 < n
  · have e1 : decide (40 < n ∨ 150 < m) = true := decide_eq_true (.inl h)
    have d1 : decide ((n : Int) > 40) = true := decide_eq_true (by omega)
    have d2 : decide (40 < n) = true := decide_eq_true h
    rw [e1]
    clear e1
    go_enter Tryd.func15, Tryd.ntmps15
    go_wp2_with fail
    go_ret
    exact ⟨rfl, rfl⟩
  · have d1 : decide ((n : Int) > 40) = false := decide_eq_false (by omega)
    have d2 : decide (40 < n) = false := decide_eq_false h
    by_cases h2 : 150 < m
    · have e1 : decide (40 < n ∨ 150 < m) = true := decide_eq_true (.inr h2)
      have d3 : decide ((m : Int) > 150) = true := decide_eq_true (by omega)
      have d4 : decide (150 < m) = true := decide_eq_true h2
      rw [e1]
      clear e1
      go_enter Tryd.func15, Tryd.ntmps15
      go_wp2_with fail
      go_ret
      exact ⟨rfl, rfl⟩
    · have e1 : decide (40 < n ∨ 150 < m) = false := decide_eq_false (by omega)
      have d3 : decide ((m : Int) > 150) = false := decide_eq_false (by omega)
      have d4 : decide (150 < m) = false := decide_eq_false h2
      rw [e1]
      clear e1
      go_enter Tryd.func15, Tryd.ntmps15
      go_wp2_with fail
      go_ret
      exact ⟨rfl, rfl⟩
/-- Nodes of which a tree may be. -/
def goodN (nl : List Nd) : Bool := decide (0 < nl.length ∧ nl.length ≤ 32) && okL 0 nl
theorem goodN_true {nl : List Nd} (h : goodN nl = true) : 0 < nl.length ∧ nl.length ≤ 32 ∧ okL 0 nl = true := by
  unfold goodN at h
  rw [Bool.and_eq_true] at h
  have := of_decide_eq_true h.1
  exact ⟨this.1, this.2, h.2⟩
/-- New refuses them. -/
theorem new_no {w : World} {ad : Option Addr} {cp room : Nat} {nl : List Nd} (hn : NodesAt w ad nl) (h : goodN nl = false) : ∃ e : Int, e ≠ 0 ∧ Calls Tryd.prog 11 #[.slice ad nl.length cp, .int .i64 room] w fun x w' => x = .returned (.tuple #[.pointer none, .int .i64 e]) ∧ Upd Nowhere w w' := by
  by_cases h1 : nl.length = 0 ∨ 32 < nl.length
  · exact ⟨29, by omega, new_bad ad cp nl w room h1⟩
  · have h2 : okL 0 nl = false := by
      unfold goodN at h
      rw [decide_eq_true (by omega), Bool.true_and] at h
      exact h
    exact ⟨6, by omega, new_arg ad cp nl w room hn (by omega) (by omega) h2⟩
section
variable {w0 w : World} {l : List Comp}
theorem x_cells {XB : Nat} {a : Act} (h : Made w0 w (blkC XB (actA a) TAct :: l)) : w.cell? ⟨XB, 1, none⟩ = some (.int .u64 a.later) ∧ w.cell? ⟨XB, 2, none⟩ = some (.int .i64 a.node) ∧ w.cell? ⟨XB, 3, none⟩ = some (.int .u32 a.fl) ∧ w.cell? ⟨XB, 4, none⟩ = some (.int .u32 a.id) ∧ w.cell? ⟨XB, 5, none⟩ = some (.int .u64 a.len) := by
  obtain ⟨o, h1, _, _⟩ := Made.foc (blkC XB (actA a) TAct) l [] h
  exact ⟨h1.1.cellAt rfl, h1.1.cellAt rfl, h1.1.cellAt rfl, h1.1.cellAt rfl, h1.1.cellAt rfl⟩
/-- A new block, among other things. -/
theorem m_blk (h : Made w0 w l) (c : Array Value) (t : TypeId) : Made w0 (w.alloc (.cells c t)) (blkC w.heap.size c t :: l) :=
  h.more (C := blkC w.heap.size c t) (o := fun k => k = w.heap.size) ⟨Blk.new _ _ _, fun _ => Iff.rfl⟩ (fun k hk => by rw [hk]; exact Nat.le_refl _) ((Upd.refl _ _).alloc (.cells c t))
end
theorem back_no (ad : Option Addr) (cp : Nat) (nl : List Nd) (ad2 : Option Addr) (n2 c2 : Nat) (w : World) (E : Env w) (hn : NodesAt w ad nl) (h : (decide (40 < nl.length ∨ 150 < n2) || !goodN nl) = true) :
    Calls Tryd.prog 6 #[.slice ad nl.length cp, .slice ad2 n2 c2] w fun e w' => e = .returned (.bool true) ∧ Upd Nowhere w w' := by
  have HFA := Lib.hid (far_ok ad nl.length cp ad2 n2 c2 w)
  have HL := fun u (hu : Upd Nowhere w u) => Lib.hid (lives u (E.old hu))
  by_cases hf : 40 < nl.length ∨ 150 < n2
  · rw [decide_eq_true hf] at HFA
    have hlv := Lib.hid (lives w E)
    clear h hf hn E HL
    go_enter Tryd.func6, Tryd.ntmps6
    go_wp2_with fail
    refine (HFA.out).mono ?_
    rintro e w1 ⟨rfl, rfl⟩
    go_wp2_with fail
    refine (hlv.out).mono ?_
    rintro e w2 ⟨rfl, u2⟩
    go_wp2_with fail
    go_ret
    exact ⟨rfl, u2⟩
  · rw [decide_eq_false hf] at HFA h
    have hg : goodN nl = false := by revert h; cases goodN nl <;> simp
    obtain ⟨e1, h1, hN1⟩ := new_no (cp := cp) (room := 100) hn hg
    have HN2 := fun u (hu : Upd Nowhere w u) => Lib.hid (new_no (cp := cp) (room := 100) (NodesAt.old hn hu) hg)
    have q1 : (e1 == 0) = false := by simp; exact h1
    have q2 : (e1 != 0) = true := by simp; exact h1
    have HN1 := Lib.hid hN1
    clear h hf hn hg E h1 hN1
    go_enter Tryd.func6, Tryd.ntmps6
    go_wp2_with fail
    refine (HFA.out).mono ?_
    rintro e w1 ⟨rfl, rfl⟩
    go_wp2_with fail
    refine (HN1.out).mono ?_
    rintro e w2 ⟨rfl, u2⟩
    obtain ⟨e2, h2, hN2⟩ := (HN2 _ u2).out
    go_wp2_with fail
    refine (hN2).mono ?_
    rintro e w3 ⟨rfl, u3⟩
    have hu := u2.trans u3 (fun _ _ h => h)
    have hlv := Lib.hid (HL _ hu).out
    clear HN2 hN2 u2 u3 HL
    go_wp2_with fail
    refine (hlv.out).mono ?_
    rintro e w4 ⟨rfl, u4⟩
    go_wp2_with fail
    go_ret
    exact ⟨rfl, hu.trans u4 (fun _ _ h => h)⟩
end Go.Proofs.YtllfloapiliheaaDoor.Tree
