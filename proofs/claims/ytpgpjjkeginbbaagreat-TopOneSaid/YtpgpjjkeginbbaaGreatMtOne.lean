/- LaneW, TopOne, TopOpen, one behind the other. -/
import Derived.Test.YtpgpjjkeginbbaaGreatMtBig
import Derived.Test.YtpgpjjkeginbbaaGreatMtA
import Derived.Test.YtpgpjjkeginbbaaGreatMtSh11
import Derived.Test.YtpgpjjkeginbbaaGreatMtOp
namespace Go.Proofs.YtpgpjjkeginbbaaGreat
open Go.RowKit
/-- n things of W cells each. -/
def LaneW (T : TypeId) (W : Nat) (w : World) (v : Value) (n : Nat) (xs : List Value) : Prop :=
  xs.length = n * W ∧ ((v = .slice none 0 0 ∧ n = 0) ∨ ∃ g o c, v = .slice (some ⟨g, o, none⟩) n c ∧ n ≤ c ∧ ∃ cur : Array Value, Blk w g cur T ∧ o + c * W ≤ cur.size ∧ ∀ j u, xs[j]? = some u → cur[o + j]? = some u)
section
variable {T : TypeId} {W n : Nat} {w w' : World} {v : Value} {xs : List Value}
theorem LaneW.upd (h : LaneW T W w v n xs) {S : Nat → Prop} (hu : Upd S w w') (hs : ∀ k, v.ownBlock = some k → ¬ S k) : LaneW T W w' v n xs := by
  rcases h with ⟨h0, h | ⟨g, o, c, rfl, h1, cur, h2, h3⟩⟩
  · exact ⟨h0, .inl h⟩
  · exact ⟨h0, .inr ⟨g, o, c, rfl, h1, cur, h2.kept hu (hs g rfl), h3⟩⟩
theorem LaneW.lt (h : LaneW T W w v n xs) {k : Nat} (hk : v.ownBlock = some k) : k < w.heap.size := by
  rcases h with ⟨_, ⟨rfl, _⟩ | ⟨g, o, c, rfl, h1, cur, h2, _⟩⟩
  · cases hk
  · obtain rfl : g = k := by simpa [Value.ownBlock] using hk
    exact h2.lt
theorem LaneW.form (h : LaneW T W w v n xs) : ∃ ad c, v = .slice ad n c := by
  rcases h with ⟨_, ⟨rfl, rfl⟩ | ⟨g, o, c, rfl, _⟩⟩
  · exact ⟨none, 0, rfl⟩
  · exact ⟨_, c, rfl⟩
theorem LaneW.nil (w : World) : LaneW T W w (.slice none 0 0) 0 [] := ⟨by simp, .inl ⟨rfl, rfl⟩⟩
/-- The first of them, and the rest. -/
theorem LaneW.cons {ys zs : List Value} (h : LaneW T W w v (n + 1) (ys ++ zs)) (hy : ys.length = W) : ∃ g o c, v = .slice (some ⟨g, o, none⟩) (n + 1) (c + 1) ∧ (∀ j u, ys[j]? = some u → w.cell? ⟨g, o + j, none⟩ = some u) ∧
    LaneW T W w (.slice (if c = 0 then some ⟨g, o, none⟩ else some ⟨g, o + W, none⟩) n c) n zs ∧ n ≤ c := by
  have hl := h.1
  rw [List.length_append, hy, Nat.succ_mul] at hl
  rcases h.2 with ⟨_, h⟩ | ⟨g, o, c, rfl, h1, cur, h2, h3, h4⟩
  · omega
  · obtain ⟨d, rfl⟩ : ∃ d, c = d + 1 := ⟨c - 1, by omega⟩
    rw [Nat.succ_mul] at h3
    refine ⟨g, o, d, rfl, fun j u hj => h2.cellAt (h4 j u ?_), ⟨by omega, ?_⟩, by omega⟩
    · rw [List.getElem?_append_left]
      · exact hj
      · rcases Nat.lt_or_ge j ys.length with h' | h'
        · exact h'
        · rw [List.getElem?_eq_none h'] at hj; cases hj
    · by_cases hd : d = 0
      · subst hd
        obtain rfl : n = 0 := by omega
        have hz : zs = [] := List.eq_nil_of_length_eq_zero (by omega)
        subst hz
        exact .inr ⟨g, o, 0, rfl, Nat.le_refl _, cur, h2, by omega, fun j y hy => by cases hy⟩
      · rw [if_neg hd]
        refine .inr ⟨g, o + W, d, rfl, by omega, cur, h2, by omega, fun j y hj => ?_⟩
        have := h4 (W + j) y (by rw [List.getElem?_append_right (by omega), hy, Nat.add_sub_cancel_left]; exact hj)
        rw [show o + W + j = o + (W + j) by omega]
        exact this
theorem LaneW.grown (h : w'.ownsRow w.heap.size T W v n xs) : LaneW T W w' v n xs ∧ ∀ k, v.ownBlock = some k → w.heap.size ≤ k := by
  refine ⟨⟨h.1, ?_⟩, fun k hk => (h.lt k hk).1⟩
  rcases h.2 with ⟨rfl, h0⟩ | ⟨g, cap, cur, rfl, _, hg, hn, _, hs, ht⟩
  · exact .inl ⟨rfl, h0⟩
  · refine .inr ⟨g, 0, cap, rfl, hn, cur, hg, by omega, fun j x hx => ?_⟩
    have h1 := hx
    rw [← ht, List.getElem?_take] at h1
    split at h1
    · rw [Nat.zero_add]; simpa using h1
    · cases h1
theorem putA_ne (l : List Value) : ∀ (cs : Array Value) (o i : Nat), i < o → (putA cs o l)[i]? = cs[i]? := by
  induction l with
  | nil => intro cs o i _; rfl
  | cons v l ih =>
    intro cs o i h
    show (putA (cs.setIfInBounds o v) (o + 1) l)[i]? = _
    rw [ih _ _ _ (by omega), Array.getElem?_setIfInBounds_ne (by omega)]
theorem putA_in (l : List Value) : ∀ (cs : Array Value) (o j : Nat) (u : Value), o + l.length ≤ cs.size → l[j]? = some u → (putA cs o l)[o + j]? = some u := by
  induction l with
  | nil => intro cs o j u _ h; cases h
  | cons v l ih =>
    intro cs o j u hs h
    show (putA (cs.setIfInBounds o v) (o + 1) l)[o + j]? = _
    rw [List.length_cons] at hs
    cases j with
    | zero =>
      rw [List.getElem?_cons_zero] at h
      cases h
      rw [Nat.add_zero, putA_ne _ _ _ _ (by omega)]
      exact Array.getElem?_setIfInBounds_self_of_lt (by omega)
    | succ j =>
      rw [List.getElem?_cons_succ] at h
      have := ih (cs.setIfInBounds o v) (o + 1) j u (by rw [Array.size_setIfInBounds]; omega) h
      rw [show o + (j + 1) = o + 1 + j by omega]
      exact this
/-- One more, in the room that is there. -/
theorem LaneW.put {g o c : Nat} {news : List Value} (h : LaneW T W w (.slice (some ⟨g, o, none⟩) n c) n xs) (hc : n + 1 ≤ c) (hl : news.length = W) :
    LaneW T W (w.setCells g (o + n * W) news) (.slice (some ⟨g, o, none⟩) (n + 1) c) (n + 1) (xs ++ news) ∧ Upd (fun k => k = g) w (w.setCells g (o + n * W) news) := by
  have hx := h.1
  rcases h.2 with ⟨h, _⟩ | ⟨g', o', c', he, h1, cur, h2, h3, h4⟩
  · cases h
  · cases he
    obtain ⟨b1, b2⟩ := setCells_blk news (o + n * W) h2
    have hcw : (n + 1) * W ≤ c * W := Nat.mul_le_mul_right W hc
    rw [Nat.succ_mul] at hcw
    refine ⟨⟨by rw [List.length_append, hx, hl, Nat.succ_mul], .inr ⟨g, o, c, rfl, hc, _, b1, by rw [putA_size]; exact h3, fun j y hy => ?_⟩⟩, b2⟩
    rcases Nat.lt_or_ge j xs.length with hj | hj
    · rw [List.getElem?_append_left hj] at hy
      rw [putA_ne _ _ _ _ (by omega)]
      exact h4 j y hy
    · rw [List.getElem?_append_right hj] at hy
      have := putA_in news cur (o + n * W) (j - xs.length) y (by omega) hy
      rw [show o + j = o + n * W + (j - xs.length) by omega]
      exact this
/-- An append of one. -/
theorem wpList_laneW {P : Program} {ops : Array Oper} {rest : List Oper} {o : Oper} {a : Act} {Q : Exit → Act → World → Prop} (hgd : o.guard = none) (s x : Operand) (t : TypeId)
    (ho : o.op = .call { callee := .builtin .append, args := #[s, x], argTypes := #[t, t] })
    (i : TypeInfo) (z : Value) (bytes : Nat) (ht : P.underlying t = some (.slice T)) (hi : P.info? T = some i) (hz : i.zero = some z) (hsize : i.size = W) (hby : i.bytes = bytes) (hzs : z.cells.size = W) (hW : 0 < W) (hbs : bytes ≤ 4096)
    (hs : a.eval s = v) (hl : LaneW T W w v n xs) (g c : Nat) (news : List Value) (hx : a.eval x = .slice (some ⟨g, 0, none⟩) 1 c) (hnl : news.length = W) (hnews : ∀ j u, news[j]? = some u → w.cell? ⟨g, j, none⟩ = some u) (h1 : ∀ u ∈ news, u.oneCell' = true) (hn : n ≤ 65536)
    (h : ∀ v' w', LaneW T W w' v' (n + 1) (xs ++ news) → Upd (fun k => v.ownBlock = some k) w w' → OwnOrNew w v v' → wpList P ops Q rest (a.put o.dst v') w') : wpList P ops Q (o :: rest) a w := by
  have hb : (n + 1) * bytes ≤ 140737488355328 := by
    have : (n + 1) * bytes ≤ 65537 * 4096 := Nat.mul_le_mul (by omega) hbs
    omega
  rcases hl.2 with ⟨rfl, rfl⟩ | ⟨g2, o2, c2, rfl, h1', cur, h2, h3, h4⟩
  · have hx0 : xs = [] := List.eq_nil_of_length_eq_zero (by have := hl.1; omega)
    subst hx0
    refine wpList_push hgd s x t ho w.heap.size T i z W bytes ht hi hz hsize hby hzs hW hbs (.slice none 0 0) 0 [] hs (ownsRow_nil _ _ _ _) g c news hx hnl hnews h1 (by omega) (Nat.le_refl _) ?_
    intro v' w' hown hu hno
    exact h v' w' (LaneW.grown hown).1 hu hno
  · have hcell : ∀ j u, xs[j]? = some u → w.cell? ⟨g2, o2 + j, none⟩ = some u := fun j u hj => h2.cellAt (h4 j u hj)
    refine wpList_append_arg w hgd s x t ho T i z W bytes ht hi hz hsize hby hzs hW g2 o2 n c2 xs hs hl.1 hcell ⟨g, 0, none⟩ 1 c news hx (by rw [hnl, Nat.one_mul]) (fun j u hj => by rw [add_at, Nat.zero_add]; exact hnews j u hj) h1 (fun hr j hj => ?_) (by unfold maxLen; omega) hb (fun hr => ?_) (fun hr v' w' hown hgr => ?_)
    · rw [hnl] at hj
      have hcw : (n + 1) * W ≤ c2 * W := Nat.mul_le_mul_right W hr
      rw [Nat.succ_mul] at hcw
      refine ⟨?_, h2.free _⟩
      rw [h2.cell, Array.getElem?_eq_getElem (by omega)]
      rfl
    · obtain ⟨a1, a2⟩ := LaneW.put hl hr hnl
      exact h _ _ a1 (a2.mono fun k _ e => by rw [e]; rfl) (fun k hk => .inl hk)
    · obtain ⟨a1, a2⟩ := LaneW.grown hown
      exact h v' w' a1 ((Upd.refl _ w).grown hgr (fun k _ hk => by cases hk)) (fun k hk => .inr (a2 k hk))
/-- Such a slice, as a thing. -/
def laneC (T : TypeId) (W : Nat) (v : Value) (n : Nat) (xs : List Value) : Comp := ⟨fun w o => LaneW T W w v n xs ∧ ∀ k, o k ↔ v.ownBlock = some k, fun h hu hS => ⟨h.1.upd hu (fun k hk => hS k ((h.2 k).2 hk)), h.2⟩, fun h hk => h.1.lt ((h.2 _).1 hk)⟩
end
end Go.Proofs.YtpgpjjkeginbbaaGreat
namespace Go.Proofs.YtpgpjjkeginbbaaGreat.Shm
open Go.RowKit Go.Proofs BigFrame
open Sh (Fl Cg Pk St)
open Rnk (FlsIn)
open Gt (VC TCg cgs)
set_option maxHeartbeats 40000000
set_option maxRecDepth 1000000
set_option linter.unusedSimpArgs false
/-- A configuration of numbers that fit. -/
structure Cnum (c : Cg) : Prop where
  by_ : c.bytes ≤ 18446744073709551615
  rate : c.rate ≤ 18446744073709551615
  burst : c.burst ≤ 18446744073709551615
  fl : ∀ f ∈ c.flows, f.id < 4294967296 ∧ f.cost ≤ 18446744073709551615 ∧ f.budget ≤ 18446744073709551615 ∧ f.size ≤ 18446744073709551615 ∧ f.cap ≤ 18446744073709551615
theorem Cnum.ok {c : Cg} (h : Cnum c) (hk : Sh.chk c = 0) : Sh.Cok c := by
  obtain ⟨_, _, _, h1, h2, _, _, _, h3⟩ := Gt.chkA_ok (Sh.chk_parts hk).2.2.2.2.2.2.2.2.2.2.1
  exact ⟨hk, h.by_, h.rate, h.burst, h3, ⟨h1, h2⟩, h.fl⟩
/-- What waits, as the law sees it. -/
def Wt (ws : List Sh.Re) (b : Sh.Bk) : Prop := ws.map (fun r => (r.rank, r.pkt)) = b.one
/-- A reply of a row is loaded. -/
theorem load_re {w : World} {g o : Nat} {V : Array Value} (hV : V.size = 42) (h : ∀ j v, V[j]? = some v → w.cell? ⟨g, o + j, none⟩ = some v) : (loadVar TRe ⟨g, o, none⟩).run Tryz.prog w = .ok (.agg V) w := by
  have := run_loadVar_mid (P := Tryz.prog) w g o TRe V.toList _ (fun j v hv => h j v (by simpa using hv)) Tryz.underlying40 rfl (by rw [infoRe]; simp [hV])
  simpa using this
theorem lane_push {T : TypeId} {W n n' : Nat} {v v' : Value} {xs ys : List Value} {w w1 w2 : World} {o : Nat → Prop} (h : (laneC T W v n xs).P w o) (hx : Upd Nowhere w w1) (hl : LaneW T W w2 v' n' ys) (hu : Upd (fun k => v.ownBlock = some k) w1 w2) (hn : OwnOrNew w1 v v') : (laneC T W v' n' ys).P w2 (fun k => v'.ownBlock = some k) ∧ Fol w o w2 (fun k => v'.ownBlock = some k) :=
  ⟨⟨hl, fun _ => Iff.rfl⟩, ⟨fun k hk => (hn k hk).imp (fun h9 => (h.2 k).2 h9) (fun h9 => Nat.le_trans hx.size h9), (hx.any _).trans hu (fun k _ hk => (h.2 k).2 hk)⟩⟩
theorem bs_vre {V : Array Value} {r : Sh.Re} (h : vre r = V) (u : World) : (Instr.buildSlice 29 1 #[(0, .agg V)]).run Tryz.prog u = .ok (.slice (some ⟨u.heap.size, 0, none⟩) 1 1) (u.alloc (.cells V TRe)) := by rw [← h]; exact bs_re ..
theorem reRow_app (ws : List Sh.Re) (r : Sh.Re) : reRow (ws ++ [r]) = reRow ws ++ (vre r).toList := by unfold reRow; rw [List.flatMap_append]; simp
theorem reRow_cons (r : Sh.Re) (ws : List Sh.Re) : reRow (r :: ws) = (vre r).toList ++ reRow ws := by unfold reRow; rw [List.flatMap_cons]
theorem one_law {w : World} {c : Cg} {ad ado : Option Addr} {n cp nl cpo : Nat} {l : List Sh.Op} (hn : c.flows.length = n) (hf : FlsIn w ad c.flows) (hc : Cnum c) (hln : l.length = nl) (hops : OpsIn w ado l) (hok : ∀ x ∈ l, x.Ok) :
    Calls Tryz.prog 5 #[.agg (VC c (.slice ad n cp)), .slice ado nl cpo] w fun e w' => e = .returned (.bool true) ∧ Upd Nowhere w w' := by
  have HFar := fun u => Lib.hid (far_any (c := c) (ad := ad) (ado := ado) (n := n) (cp := cp) (nl := nl) (cpo := cpo) u)
  have HLv := fun u => Lib.hid (lives_any u)
  have hU : Upd Nowhere w (w.alloc (.cells (VC c (.slice ad n cp)) TCg)) := (Upd.refl _ _).alloc _
  have hB : Blk (w.alloc (.cells (VC c (.slice ad n cp)) TCg)) w.heap.size (VC c (.slice ad n cp)) TCg := Blk.new _ _ _
  obtain ⟨FB, hFB⟩ : ∃ FB, decide (64 < n ∨ 150 < nl) = FB := ⟨_, rfl⟩
  rw [hFB] at HFar
  have HFB := Lib.hid hFB
  have HN := Lib.hid hn
  have HF := Lib.hid hf
  have HLN := Lib.hid hln
  have HOPS := Lib.hid hops
  have HOK := Lib.hid hok
  have HC := Lib.hid hc
  clear hn hf hc hln hops hok hFB
  obtain ⟨i0, hi, hz0, hz1, hz2⟩ := info_parts infoRe3
  go_enter Tryz.func5, Tryz.ntmps5
  go_upto_region 1 with fail
  have hge : w.heap.size ≤ w.heap.size := Nat.le_refl _
  obtain ⟨pb, hpb⟩ : ∃ pb, w.heap.size = pb := ⟨_, rfl⟩
  have HPB : Hid (w.heap.size ≤ pb) := Lib.hid (by omega)
  rw [hpb] at hB
  simp only [hpb]
  clear hpb hge
  generalize w.alloc (.cells (VC c (.slice ad n cp)) TCg) = w1 at *
  have HB := Lib.hid hB
  have HU := Lib.hid hU
  obtain ⟨q0, q1, q2, q3, q4, q5, q6, q7, q8, q9, q10⟩ := cgs hB
  clear hB hU
  go_wp2_with fail
  refine (HFar _).out.mono ?_
  rintro e w2 ⟨rfl, u2⟩
  have HU2 := Lib.hid (HU.out.trans u2 (fun _ _ h => h))
  have hB2 := Shm.Blk.old HB.out u2
  clear u2 q0 q1 q2 q3 q4 q5 q6 q7 q8 q9 q10 HB HU
  cases FB with
  | true =>
    clear hB2
    go_wp2_with fail
    refine (HLv _).out.mono ?_
    rintro e w3 ⟨rfl, u3⟩
    go_wp2_with fail
    go_ret
    exact ⟨rfl, HU2.out.trans u3 (fun _ _ h => h)⟩
  | false =>
    have hfar := of_decide_eq_false HFB.out
    obtain ⟨q0, q1, q2, q3, q4, q5, q6, q7, q8, q9, q10⟩ := cgs hB2
    have z3 := hB2.free 3
    have hB3 : Blk (w2.setCell ⟨pb, 3, none⟩ (.int .i64 1)) pb (VC { c with queues := 1 } (.slice ad n cp)) TCg := hB2.set 3 _
    have hU3 : Upd Nowhere w (w2.setCell ⟨pb, 3, none⟩ (.int .i64 1)) := HU2.out.setNew HPB.out _
    clear hB2
    go_upto_region 4 with fail
    generalize w2.setCell ⟨pb, 3, none⟩ (.int .i64 1) = w3 at *
    clear q0 q1 q2 q3 q4 q5 q6 q7 q8 q9 q10 z3
    obtain ⟨q0, q1, q2, q3, q4, q5, q6, q7, q8, q9, q10⟩ := cgs hB3
    have HU3 := Lib.hid hU3
    obtain ⟨c', hc'⟩ : ∃ c', bkd { c with queues := 1 } 3 c.levels = c' := ⟨_, rfl⟩
    by_cases hk : Sh.chk c' = 0
    · have hCn : Cnum c' := by rw [← hc']; exact ⟨HC.out.by_, HC.out.rate, HC.out.burst, HC.out.fl⟩
      have hCok := hCn.ok hk
      have e1 : c'.back = 3 ∧ c'.queues = 1 := by rw [← hc']; exact ⟨rfl, rfl⟩
      have HRn := Lib.hid (runs_ok (w := w3) (c := { c with queues := 1 }) (ad := ad) (ado := ado) (cp := cp) (cpo := cpo) (nl := nl) (back := 3) (levels := c.levels) Bk.bq_laws HN.out (HF.out.old hU3) (by rw [hc']; exact hCok) HLN.out (by omega) (HOPS.out.old hU3) HOK.out (by rw [hc']; exact fun u _ => made_queues e1.1 hCok.pk (by rw [e1.2]; omega) u))
      rw [hc'] at HRn
      have HST : Hid (∀ k x, l[k]? = some x → (Sh.runS c' (Sh.st0 c') l).1[k]? = some (Sh.doS c' (Sh.stA c' (Sh.st0 c') l k) x).1 ∧ Sh.stA c' (Sh.st0 c') l (k + 1) = (Sh.doS c' (Sh.stA c' (Sh.st0 c') l k) x).2 ∧ (Sh.stA c' (Sh.st0 c') l k).bk.is1) := Lib.hid (fun k x hx => ⟨Sh.runS_at hx, Sh.stA_succ hx, Sh.one_at (by unfold Sh.st0; rw [if_pos e1.1, e1.2]; rfl) _⟩)
      have HW0 : Hid (Wt [] (Sh.stA c' (Sh.st0 c') l 0).bk) := Lib.hid (by
        show ([] : List (Nat × Pk)) = (Sh.st0 c').bk.one
        unfold Sh.st0
        rw [if_pos e1.1]
        rfl)
      generalize Sh.stA c' (Sh.st0 c') l = ST at *
      generalize (Sh.runS c' (Sh.st0 c') l).1 = RR at *
      clear hCn hCok e1 hk hc' hU3 hB3
      go_wp2_with fail
      refine HRn.out.mono ?_
      rintro e w4 ⟨va, rfl, hM⟩
      obtain ⟨ada, cpa, rfl⟩ := row_form (m_own hM mem0)
      have HM4 := Lib.hid hM
      clear hM q0 q1 q2 q3 q4 q5 q6 q7 q8 q9 q10 HRn
      go_wp2_with fail
      go_loopg [7, 9, 28] (nl + 1) (fun gk v7 _ v28 wr => ∃ (k m : Nat) (ws : List Sh.Re), nl - k < gk ∧ k ≤ nl ∧ v28 = .int .i64 k ∧ ws.length = m ∧ m ≤ k ∧ Hid (Wt ws (ST k).bk) ∧ Hid (Made w3 wr (laneC TRe 42 v7 m (reRow ws) :: [rowW TRe 42 (.slice ada nl cpa) nl (reRow RR)])))
      case atStart =>
        refine ⟨0, 0, [], by omega, Nat.zero_le _, rfl, rfl, Nat.le_refl _, HW0, Lib.hid ?_⟩
        exact HM4.out.more (C := laneC TRe 42 (.slice none 0 0) 0 (reRow [])) (o := fun _ => False) ⟨LaneW.nil _, fun q => ⟨fun h => h.elim, fun h => by simp [Value.ownBlock] at h⟩⟩ (fun _ h => h.elim) (Upd.refl _ _)
      case round =>
        obtain ⟨k, m, ws, hgk, hin, rfl, hm, hmk, HW, HM⟩ := hrel
        obtain ⟨wB, rfl⟩ : ∃ x, x = wr := ⟨_, rfl⟩
        have HGK := Lib.hid hgk
        clear hgk
        rcases Nat.lt_or_ge k nl with hlt | hge
        · obtain ⟨x, hx⟩ : ∃ x, l[k]? = some x := ⟨l[k]'(by rw [HLN.out]; exact hlt), by simp⟩
          obtain ⟨hr1, hr2, hr3⟩ := HST.out k x hx
          have hdo := Sh.one_do (c := c') hr3 x
          rw [← hr2] at hdo
          obtain ⟨r, hr⟩ : ∃ r, (Sh.doS c' (ST k) x).1 = r := ⟨_, rfl⟩
          rw [hr] at hdo hr1
          obtain ⟨ga, cpa', hada⟩ := m_arr HM.out mem1 (by omega)
          injection hada with hada1 _ hada2
          subst hada1 hada2
          have hcell : ∀ j v, (vre r)[j]? = some v → wB.cell? ⟨ga, k * 42 + j, none⟩ = some v := fun j v hv => by
            have hj : j < 42 := by
              rcases Nat.lt_or_ge j 42 with h | h
              · exact h
              · rw [Array.getElem?_eq_none (by exact h)] at hv; cases hv
            exact m_cell HM.out mem1 (rr_at hr1 hj hv)
          obtain ⟨V, hV⟩ : ∃ V, vre r = V := ⟨_, rfl⟩
          have hs1 : V.size = 42 := by rw [← hV]; rfl
          have ha1 : V.all (·.oneCell') = true := by rw [← hV]; exact vre_one ..
          have v0 : V[0]? = some (.int .i64 r.kind) := by rw [← hV]; rfl
          have v1 : V[1]? = some (.int .i64 (r.code : Nat)) := by rw [← hV]; rfl
          have v2 : V[2]? = some (.int .u32 (r.pkt.1 : Nat)) := by rw [← hV]; rfl
          have v3 : V[3]? = some (.int .u32 (r.pkt.2.1 : Nat)) := by rw [← hV]; rfl
          have v4 : V[4]? = some (.int .u64 (r.pkt.2.2 : Nat)) := by rw [← hV]; rfl
          have v5 : V[5]? = some (.int .u64 (r.rank : Nat)) := by rw [← hV]; rfl
          rw [hV] at hcell
          have HV := Lib.hid hV
          have HDO := Lib.hid hdo
          have hI : (k : Int) < nl := by omega
          clear hV hdo hr1 hr2 hr3 hx
          go_upto_region 10 with fail
          refine wp_region_lit ?_
          refine wpList_one rfl fun K hK => ?_
          go_simp
          refine hK.out _ _ ?_
          clear hK K
          try simp only [Act.put, List.setIfInBounds_toArray, List.set_cons_zero, List.set_cons_succ]
          refine wpList_loadV TRe (.tmp 30) ⟨ga, k * 42, none⟩ (.agg V) (load_re hs1 hcell) ?_
          (try simp only [Act.put, List.setIfInBounds_toArray, List.set_cons_zero, List.set_cons_succ])
          refine wpList_one rfl fun K hK => ?_
          go_simp
          refine hK.out _ _ ?_
          clear hK K
          try simp only [Act.put, List.setIfInBounds_toArray, List.set_cons_zero, List.set_cons_succ]
          have hZ := Blk.new wB zRe TRe
          have hA : Upd Nowhere wB (wB.alloc (.cells zRe TRe)) := (Upd.refl _ _).alloc _
          have hge2 : wB.heap.size ≤ wB.heap.size := Nat.le_refl _
          obtain ⟨wD, hst, hXB, huD⟩ := store_all (P := Tryz.prog) (T := TRe) (V := V) (n := 42) hZ infoRe rfl hs1 ha1
          refine wpList_storeV TRe (.tmp 9) (.tmp 31) ⟨wB.heap.size, 0, none⟩ (.agg V) hst ?_
          refine wpList_nil ?_
          have HMD := Lib.hid (HM.out.old (hA.trans huD (fun q hq e => by omega)))
          generalize wB.heap.size = xb at *
          clear hst huD hZ hA hge2 HM hcell
          have x0 : wD.cell? ⟨xb, 0, none⟩ = some (.int .i64 r.kind) := hXB.cellAt v0
          have x1 : wD.cell? ⟨xb, 1, none⟩ = some (.int .i64 (r.code : Nat)) := hXB.cellAt v1
          by_cases h0 : r.code ≠ 0
          · have d0 : ((r.code : Int) != 0) = true := by simp; omega
            have HW2 : Hid (Wt ws (ST (k + 1)).bk) := Lib.hid (by unfold Wt; rw [HDO.out.2.2.2 (.inl h0)]; exact HW.out)
            clear h0
            go_wp2_with fail
            go_roundg (nl - k)
            case rel => exact ⟨k + 1, m, ws, by omega, by omega, rfl, hm, by omega, HW2, HMD⟩
            case measure => have := HGK.out; omega
          · have h00 : r.code = 0 := Classical.not_not.1 h0
            have d0 : ((r.code : Int) != 0) = false := by simp; omega
            rw [h00] at x1
            have d0' : ((0 : Int) != 0) = false := by decide
            clear h0 d0
            by_cases h1 : r.kind = 1
            · have HW2 : Hid (Wt (ws ++ [r]) (ST (k + 1)).bk) := Lib.hid (by unfold Wt; rw [HDO.out.2.1 h00 h1, List.map_append, ← HW.out]; rfl)
              rw [h1] at x0
              have hs2 : V.toList.length = 42 := by simpa using hs1
              have ha2 : ∀ u ∈ V.toList, u.oneCell' = true := fun u hu => (Array.all_eq_true_iff_forall_mem.1 ha1) u (by simpa using hu)
              obtain ⟨oL, hL, _, hLb⟩ := Made.foc (laneC TRe 42 _ m (reRow ws)) [rowW TRe 42 (.slice (some ⟨ga, 0, none⟩) nl cpa) nl (reRow RR)] [] HMD.out
              have hbs := bs_vre HV.out wD
              go_upto_region 14 with fail
              refine wp_region_lit ?_
              refine wpList_one rfl fun K hK => ?_
              go_simp
              refine hK.out _ _ ?_
              clear hK K
              try simp only [Act.put, List.setIfInBounds_toArray, List.set_cons_zero, List.set_cons_succ]
              refine wpList_loadV TRe (.tmp 9) ⟨xb, 0, none⟩ (.agg V) (load_all (n := 42) hXB Tryz.underlying40 rfl infoRe hs1) ?_
              (try simp only [Act.put, List.setIfInBounds_toArray, List.set_cons_zero, List.set_cons_succ])
              refine wpList_execW (.slice (some ⟨wD.heap.size, 0, none⟩) 1 1) (exec_buildSlice hbs) ?_
              (try simp only [Act.put, List.setIfInBounds_toArray, List.set_cons_zero, List.set_cons_succ])
              have hA := (Upd.refl Nowhere wD).alloc (.cells V TRe)
              refine wpList_laneW rfl _ _ 29 rfl i0 (.agg zRe) 328 Tryz.underlying29 hi hz0 hz1 hz2 rfl (by decide) (by decide) rfl (hL.1.upd hA (fun _ _ h => h)) wD.heap.size 1 V.toList rfl hs2 (new_cells _ _ _) ha2 (by omega) ?_
              intro v6 w6 hl6 hu6 hn6
              (try simp only [Act.put, List.setIfInBounds_toArray, List.set_cons_zero, List.set_cons_succ])
              obtain ⟨b1, b2⟩ := lane_push hL hA hl6 hu6 hn6
              have HM6 : Hid (Made w3 w6 (laneC TRe 42 v6 (m + 1) (reRow (ws ++ [r])) :: [rowW TRe 42 (.slice (some ⟨ga, 0, none⟩) nl cpa) nl (reRow RR)])) := Lib.hid (by rw [reRow_app, HV.out]; exact hLb w6 _ (laneC TRe 42 v6 (m + 1) (reRow ws ++ V.toList)) b1 b2)
              clear b1 b2 hl6 hu6 hn6 hL hLb hbs hA
              refine wpList_one rfl fun K hK => ?_
              go_simp
              refine hK.out _ _ ?_
              clear hK K
              try simp only [Act.put, List.setIfInBounds_toArray, List.set_cons_zero, List.set_cons_succ]
              refine wpList_nil ?_
              go_wp2_with fail
              go_roundg (nl - k)
              case rel => exact ⟨k + 1, m + 1, ws ++ [r], by omega, by omega, rfl, by rw [List.length_append, hm]; rfl, by omega, HW2, HM6⟩
              case measure => have := HGK.out; omega
            · by_cases h2 : r.kind = 2
              · have hone := HDO.out.2.2.1 h00 h2
                have hW := HW.out
                unfold Wt at hW
                rw [hone] at hW
                cases ws with
                | nil => cases hW
                | cons r0 ws' =>
                  rw [List.map_cons] at hW
                  injection hW with hW1 hW2
                  have e1 : r0.rank = r.rank := congrArg Prod.fst hW1
                  have e2 : r0.pkt = r.pkt := congrArg Prod.snd hW1
                  have HW2 : Hid (Wt ws' (ST (k + 1)).bk) := Lib.hid hW2
                  obtain ⟨m', rfl⟩ : ∃ m', m = m' + 1 := ⟨ws'.length, hm.symm⟩
                  rw [h2] at x0
                  have d1 : ((2 : Int) == 1) = false := by decide
                  obtain ⟨oL, hL, hLs, hLb⟩ := Made.foc (laneC TRe 42 _ (m' + 1) (reRow (r0 :: ws'))) [rowW TRe 42 (.slice (some ⟨ga, 0, none⟩) nl cpa) nl (reRow RR)] [] HMD.out
                  have hL1 := hL.1
                  rw [reRow_cons] at hL1
                  obtain ⟨gw, ow, cw, hv7, hcl, hL2, hmc⟩ := hL1.cons rfl
                  subst hv7
                  have y2 : wD.cell? ⟨gw, ow + 2, none⟩ = some (.int .u32 (r.pkt.1 : Nat)) := hcl 2 _ (by rw [← e2]; rfl)
                  have y3 : wD.cell? ⟨gw, ow + 3, none⟩ = some (.int .u32 (r.pkt.2.1 : Nat)) := hcl 3 _ (by rw [← e2]; rfl)
                  have y4 : wD.cell? ⟨gw, ow + 4, none⟩ = some (.int .u64 (r.pkt.2.2 : Nat)) := hcl 4 _ (by rw [← e2]; rfl)
                  have y5 : wD.cell? ⟨gw, ow + 5, none⟩ = some (.int .u64 (r.rank : Nat)) := hcl 5 _ (by rw [← e1]; rfl)
                  have x2 : wD.cell? ⟨xb, 2, none⟩ = some (.int .u32 (r.pkt.1 : Nat)) := hXB.cellAt v2
                  have x3 : wD.cell? ⟨xb, 3, none⟩ = some (.int .u32 (r.pkt.2.1 : Nat)) := hXB.cellAt v3
                  have x4 : wD.cell? ⟨xb, 4, none⟩ = some (.int .u64 (r.pkt.2.2 : Nat)) := hXB.cellAt v4
                  have x5 : wD.cell? ⟨xb, 5, none⟩ = some (.int .u64 (r.rank : Nat)) := hXB.cellAt v5
                  have dm : (((m' : Int) + 1) == 0) = false := by simp; omega
                  clear hcl hW1 hW2 hone e1 e2 hL1
                  generalize r.pkt.1 = p1 at *
                  generalize r.pkt.2.1 = p2 at *
                  generalize r.pkt.2.2 = p3 at *
                  generalize r.rank = rk at *
                  go_upto_region 16 with fail
                  go_quiet (fail)
                  rename_i nq
                  have HMQ := Lib.hid (HMD.out.old ((Upd.refl Nowhere wD).drewN nq))
                  have hL3 := hL2.upd ((Upd.refl Nowhere wD).drewN nq) (fun _ _ h => h)
                  have HL3 := Lib.hid hL3
                  clear hL2 hL3 hLb hLs hL x0 x1 x2 x3 x4 x5 y2 y3 y4 y5 hXB HMD
                  generalize wD.drewN nq = wQ at *
                  go_upto_region 18 with fail
                  go_wp2_with fail
                  all_goals
                    go_roundg (nl - k)
                    case rel =>
                      refine ⟨k + 1, m', ws', by omega, by omega, rfl, by simpa using hm, by omega, HW2, Lib.hid ?_⟩
                      obtain ⟨oL, hL, _, hLb⟩ := Made.foc (laneC TRe 42 (.slice (some ⟨gw, ow, none⟩) (m' + 1) (cw + 1)) (m' + 1) (reRow (r0 :: ws'))) [rowW TRe 42 (.slice (some ⟨ga, 0, none⟩) nl cpa) nl (reRow RR)] [] HMQ.out
                      have hl := HL3.out
                      first | (have h9 : cw = 0 := (by assumption); rw [if_pos h9, h9] at hl) | (have h9 : ¬ cw = 0 := (by assumption); rw [if_neg h9] at hl)
                      exact hLb wQ _ (laneC TRe 42 _ m' (reRow ws')) ⟨hl, fun _ => Iff.rfl⟩ ⟨fun q hq => .inl ((hL.2 q).2 hq), Upd.refl _ _⟩
                    case measure => have := HGK.out; omega
              · have d1 : (r.kind == 1) = false := by simpa using h1
                have d2 : (r.kind == 2) = false := by simpa using h2
                have HW2 : Hid (Wt ws (ST (k + 1)).bk) := Lib.hid (by unfold Wt; rw [HDO.out.2.2.2 (.inr ⟨h1, h2⟩)]; exact HW.out)
                clear h1 h2
                go_wp2_with fail
                go_roundg (nl - k)
                case rel => exact ⟨k + 1, m, ws, by omega, by omega, rfl, hm, by omega, HW2, HMD⟩
                case measure => have := HGK.out; omega
        · obtain rfl : k = nl := by omega
          have dI : decide ((k : Int) < k) = false := by simp
          have HUF := Lib.hid (HU3.out.trans HM.out.upd (fun _ _ h => h))
          clear HM HW
          go_wp2_with fail
          refine (HLv _).out.mono ?_
          rintro e w5 ⟨rfl, u5⟩
          go_wp2_with fail
          go_ret
          exact ⟨rfl, HUF.out.trans u5 (fun _ _ h => h)⟩
    · have HRn := Lib.hid (runs_no (w := w3) (c := { c with queues := 1 }) (ad := ad) (ado := ado) (cp := cp) (cpo := cpo) (nl := nl) HN.out (by omega) (HF.out.old hU3) 3 c.levels (by rw [hc']; exact hk))
      rw [hc'] at HRn
      generalize Sh.chk c' = y at *
      have d0 : ((y : Int) != 0) = true := by simp; omega
      have d0' : ((y : Int) == 0) = false := by simp; omega
      clear hk hc' hU3 hB3
      go_wp2_with fail
      refine HRn.out.mono ?_
      rintro e w4 ⟨rfl, u4⟩
      go_wp2_with fail
      refine (HLv _).out.mono ?_
      rintro e w5 ⟨rfl, u5⟩
      go_wp2_with fail
      go_ret
      exact ⟨rfl, (HU3.out.trans u4 (fun _ _ h => h)).trans u5 (fun _ _ h => h)⟩
end Go.Proofs.YtpgpjjkeginbbaaGreat.Shm
namespace Go.Proofs.YtpgpjjkeginbbaaGreat.Shm
open Go.RowKit Go.Proofs BigFrame
open Sh (Fl Cg)
open Rnk (FlsIn KF)
set_option linter.unusedSimpArgs false
theorem flatW_at {α β : Type} {W : Nat} (f : α → List β) (hf : ∀ a, (f a).length = W) : ∀ {l : List α} {k : Nat} {a : α}, l[k]? = some a → ∀ {j : Nat}, j < W → (l.flatMap f)[k * W + j]? = (f a)[j]?
  | [], _, _, h, _, _ => by simp at h
  | x :: r, k, a, h, j, hj => by
    rw [List.flatMap_cons]
    cases k with
    | zero =>
      simp only [List.getElem?_cons_zero] at h; cases h
      rw [Nat.zero_mul, Nat.zero_add, List.getElem?_append_left (by rw [hf]; exact hj)]
    | succ k =>
      simp only [List.getElem?_cons_succ] at h
      have e : (k + 1) * W = k * W + W := Nat.succ_mul k W
      rw [List.getElem?_append_right (by rw [hf]; omega), hf, show (k + 1) * W + j - W = k * W + j by omega]
      exact flatW_at f hf h hj
theorem rows_get {X : Type} {f : X → List Value} {C : Nat} (hf : ∀ x, (f x).length = C) (hC : 0 < C) {w : World} {v : Value} {l : List X} (h : RowsAt w v l.length (l.flatMap f)) :
    ∃ ad c, v = .slice ad l.length c ∧ (ad = none → l.length = 0 ∧ c = 0) ∧ ∀ i x, l[i]? = some x → ∃ g o, ad = some ⟨g, o, none⟩ ∧ ∀ j u, (f x)[j]? = some u → w.cell? ⟨g, o + i * C + j, none⟩ = some u := by
  obtain ⟨ad, ca, rfl, h0, _, hca, hc⟩ := h
  refine ⟨ad, ca, rfl, h0, fun i x hx => ?_⟩
  have hlt : i < l.length := by
    rcases Nat.lt_or_ge i l.length with h' | h'
    · exact h'
    · rw [List.getElem?_eq_none h'] at hx; cases hx
  cases ad with
  | none => have := (h0 rfl).1; omega
  | some b =>
    have at_ : ∀ j u, (f x)[j]? = some u → (l.flatMap f)[i * C + j]? = some u := fun j u hu => by
      have hj : j < C := by
        rcases Nat.lt_or_ge j C with h' | h'
        · exact h'
        · rw [List.getElem?_eq_none (by rw [hf]; exact h')] at hu; cases hu
      rw [flatW_at f hf hx hj]; exact hu
    have h0' : (f x)[0]? = some ((f x)[0]'(by rw [hf]; exact hC)) := List.getElem?_eq_getElem _
    have hs := (hc b rfl _ _ (at_ _ _ h0')).1
    obtain ⟨g, o, sp⟩ := b
    simp only at hs
    subst hs
    exact ⟨g, o, rfl, fun j u hu => by rw [Nat.add_assoc]; exact (hc _ rfl _ _ (at_ j u hu)).2⟩
/-- An operation's cells. -/
def opL (x : Sh.Op) : List Value := [.int .i64 x.kind, .int .u32 (x.flow : Nat), .int .u32 (x.id : Nat), .int .u64 (x.len : Nat), .int .u64 (x.ticks : Nat)]
theorem fls_of {w : World} {v : Value} {l : List Fl} (h : RowsAt w v l.length (l.flatMap KF)) : ∃ ad c, v = .slice ad l.length c ∧ FlsIn w ad l := by
  obtain ⟨ad, c, h1, _, h2⟩ := rows_get (f := KF) (C := 5) (fun _ => rfl) (by omega) h
  refine ⟨ad, c, h1, fun k f hf => ?_⟩
  obtain ⟨g, o, e, h4⟩ := h2 k f hf
  exact ⟨g, o, e, h4 0 _ rfl, h4 1 _ rfl, h4 2 _ rfl, h4 3 _ rfl, h4 4 _ rfl⟩
theorem ops_of {w : World} {v : Value} {l : List Sh.Op} (h : RowsAt w v l.length (l.flatMap opL)) : ∃ ad c, v = .slice ad l.length c ∧ OpsIn w ad l := by
  obtain ⟨ad, c, h1, _, h2⟩ := rows_get (f := opL) (C := 5) (fun _ => rfl) (by omega) h
  refine ⟨ad, c, h1, fun k f hf => ?_⟩
  obtain ⟨g, o, e, h4⟩ := h2 k f hf
  exact ⟨g, o, e, h4 0 _ rfl, h4 1 _ rfl, h4 2 _ rfl, h4 3 _ rfl, h4 4 _ rfl⟩
end Go.Proofs.YtpgpjjkeginbbaaGreat.Shm

