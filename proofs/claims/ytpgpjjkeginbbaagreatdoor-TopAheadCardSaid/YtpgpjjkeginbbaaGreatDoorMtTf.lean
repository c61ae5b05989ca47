/- TreeLives, TreeActs, TreeBack, TreeFlat, TreeFlat0, one behind the other. -/
import Derived.Test.YtpgpjjkeginbbaaGreatDoorMtTr2
import Derived.Test.YtpgpjjkeginbbaaGreatDoorMtOp
namespace Go.Proofs.YtpgpjjkeginbbaaGreatDoor.Tree
open Go.RowKit Go.Proofs BigFrame
set_option maxHeartbeats 1000000
theorem flatW_at {α β : Type} {W : Nat} (f : α → List β) (hf : ∀ a, (f a).length = W) : ∀ {l : List α} {k : Nat} {a : α}, l[k]? = some a → ∀ {j : Nat}, j < W → (l.flatMap f)[k * W + j]? = (f a)[j]?
 | [], _, _, h, _, _ => by simp at h
 | x :: r, k, a, h, j, hj => by
   rw [List.flatMap_cons]
   cases k with
   | zero =>
     simp only [List.getElem?_cons_zero] at h; cases h
     rw [Nat.zero_mul, Nat.zero_add, List.getElem?_append_left (by rw [hf]; exact hj)]
   | succ k =>
     simp only [List.getElem?_cons_succ] at h
     have e : (k + 1) * W = k * W + W := Nat.succ_mul k W
     rw [List.getElem?_append_right (by rw [hf]; omega), hf, show (k + 1) * W + j - W = k * W + j by omega]
     exact flatW_at f hf h hj
/-- What is done. -/
structure Act where
 pop : Bool
 later : Nat
 node : Int
 fl : Nat
 id : Nat
 len : Nat
def Act.Ok (a : Act) : Prop := a.later ≤ 18446744073709551615 ∧ a.fl < 4294967296 ∧ a.id < 4294967296 ∧ a.len ≤ 18446744073709551615
def nd (a : Nd) : List Value := [.int .i64 a.par, .int .i64 a.kind, .int .u64 a.wt, .int .u64 a.gap]
end Go.Proofs.YtpgpjjkeginbbaaGreatDoor.Tree
namespace Go.Proofs.YtpgpjjkeginbbaaGreatDoor.Tree
open Go.RowKit Go.Proofs BigFrame
set_option maxHeartbeats 4000000
set_option maxRecDepth 1000000
/-- A root and its leaves. -/
def flatN (kd : Nat) (ws : List Nat) (gap : Nat) : List Nd := ⟨0, (kd : Nat), 0, 0⟩ :: ws.map (fun x => ⟨0, 1, x, gap⟩)
theorem flatN_len (kd : Nat) (ws : List Nat) (gap : Nat) : (flatN kd ws gap).length = ws.length + 1 := by simp [flatN]
theorem flatN_leaf {kd gap : Nat} {ws : List Nat} {i : Nat} (hi : i < ws.length) : (flatN kd ws gap)[i + 1]? = some ⟨0, 1, ws[i]'hi, gap⟩ := by simp [flatN, hi]
theorem okL_leaves (gap : Nat) : ∀ (ws : List Nat) (k : Nat), 1 ≤ k → okL k (ws.map (fun x => (⟨0, 1, x, gap⟩ : Nd))) = true
 | [], _, _ => rfl
 | x :: ws, k, hk => by
   show (okN k ⟨0, 1, x, gap⟩ && okL (k + 1) (ws.map (fun x => (⟨0, 1, x, gap⟩ : Nd)))) = true
   rw [okL_leaves gap ws (k + 1) (by omega), Bool.and_true]
   refine decide_eq_true ?_
   show (1 : Int) ≤ 1 ∧ (1 : Int) ≤ 3 ∧ (0 : Int) ≤ 0 ∧ (0 : Int) < max (k : Int) 1
   omega
theorem flatN_ok {kd gap : Nat} {ws : List Nat} (h1 : 1 ≤ kd) (h3 : kd ≤ 3) : okL 0 (flatN kd ws gap) = true := by
 show (okN 0 ⟨0, (kd : Nat), 0, 0⟩ && okL 1 _) = true
 rw [okL_leaves gap ws 1 (Nat.le_refl _), Bool.and_true]
 refine decide_eq_true ?_
 show (1 : Int) ≤ (kd : Nat) ∧ ((kd : Nat) : Int) ≤ 3 ∧ (0 : Int) ≤ 0 ∧ (0 : Int) < max ((0 : Nat) : Int) 1
 omega
theorem flatN_fit {kd gap : Nat} {ws : List Nat} (hw : ∀ x ∈ ws, x < 4294967296) (hg : gap ≤ 18446744073709551615) : FitN (flatN kd ws gap) := fun a ha => by
 rcases List.mem_cons.1 ha with rfl | ha
 · exact ⟨Nat.zero_le _, Nat.zero_le _⟩
 · obtain ⟨x, hx, rfl⟩ := List.mem_map.1 ha
   have := hw x hx
   exact ⟨by show x ≤ _; omega, hg⟩
theorem own_one (w : World) (cs : Array Value) (e : TypeId) (W : Nat) (hs : cs.size = W) : (w.alloc (.cells cs e)).ownsRow w.heap.size e W (.slice (some ⟨w.heap.size, 0, none⟩) 1 1) 1 cs.toList := by
 subst hs
 exact ⟨by simp, .inr ⟨w.heap.size, 1, cs, rfl, Nat.le_refl _, Blk.new _ _ _, Nat.le_refl _, by decide, by simp, List.take_of_length_le (by simp)⟩⟩
abbrev ZNo : Value := .agg #[.int .i64 0, .int .i64 0, .int .u64 0, .int .u64 0]
theorem infoNo : (Tryz.prog.info? TNo).map (fun i => (i.zero, i.size, i.bytes)) = some (some ZNo, 4, 32) := by kernel_rfl
theorem row_nodes {w : World} {base n : Nat} {v : Value} {l : List Nd} (h : w.ownsRow base TNo 4 v n (l.flatMap nd)) (hn : l.length = n) : ∃ ad c, v = .slice ad l.length c ∧ NodesAt w ad l := by
 subst hn
 rcases h.2 with ⟨rfl, h0⟩ | ⟨g, cap, cur, rfl, _, hb, _, _, _, ht⟩
 · refine ⟨none, 0, by rw [h0], fun _ => h0, fun b hb => by cases hb⟩
 · refine ⟨_, _, rfl, (fun h => by cases h), fun b hb' _ => ?_⟩
   cases hb'
   have hl : (l.flatMap nd).length = l.length * 4 := h.1
   have r : ∀ i a j v, l[i]? = some a → j < 4 → (nd a)[j]? = some v → w.cell? ⟨g, 0 + (i * 4 + j), none⟩ = some v := fun i a j v hi hj hv => by
    have h1 : (l.flatMap nd)[i * 4 + j]? = some v := by rw [flatW_at nd (fun _ => rfl) hi hj]; exact hv
    have hlt : i * 4 + j < l.length * 4 := by
     rw [← hl]
     rcases Nat.lt_or_ge (i * 4 + j) (l.flatMap nd).length with h' | h'
     · exact h'
     · rw [List.getElem?_eq_none h'] at h1; cases h1
    rw [← ht, List.getElem?_take_of_lt hlt] at h1
    rw [Nat.zero_add]
    exact (show Blk w g cur TNo from hb).cellAt (by simpa using h1)
   exact ⟨rfl, fun i a ha => ⟨r i a 0 _ ha (by omega) rfl, by rw [Nat.add_assoc]; exact r i a 1 _ ha (by omega) rfl, by rw [Nat.add_assoc]; exact r i a 2 _ ha (by omega) rfl, by rw [Nat.add_assoc]; exact r i a 3 _ ha (by omega) rfl⟩⟩
end Go.Proofs.YtpgpjjkeginbbaaGreatDoor.Tree
namespace Go.Proofs.YtpgpjjkeginbbaaGreatDoor.Tree
open HeapE (El)
open WheelR (Ri)
open Cal (ins Rises ins_mem ins_len ins_rises ins_behind)
/-- A shape of a root and leaves. -/
structure FlatSh (sh : Sh) (kd : Nat) (ws : List Nat) (gap : Nat) : Prop where
 n : sh.n = ws.length + 1
 par : ∀ i, sh.par i = 0
 k0 : sh.kind 0 = kd
 k1 : ∀ i, sh.kind (i + 1) = 1
 w1 : ∀ i (h : i < ws.length), sh.wt (i + 1) = ws[i]
 g1 : ∀ i, i < ws.length → sh.gap (i + 1) = gap
 l0 : 0 < ws.length → sh.leaf 0 = false
 l1 : ∀ i, sh.leaf (i + 1) = true
theorem nth_flat_par (kd : Nat) (ws : List Nat) (gap i : Nat) : (nth (flatN kd ws gap) i).par = 0 := by
 unfold nth
 cases h : (flatN kd ws gap)[i]? with
 | none => rfl
 | some a =>
   have hm := List.mem_of_getElem? h
   rcases List.mem_cons.1 hm with rfl | hm
   · rfl
   · obtain ⟨x, _, rfl⟩ := List.mem_map.1 hm; rfl
theorem nth_flat_kind (kd : Nat) (ws : List Nat) (gap i : Nat) : (nth (flatN kd ws gap) (i + 1)).kind = 1 := by
 unfold nth
 show ((ws.map (fun x => (⟨0, 1, x, gap⟩ : Nd)))[i]?.getD ⟨0, 1, 0, 0⟩).kind = 1
 rw [List.getElem?_map]
 cases ws[i]? <;> rfl
theorem flat_sh (kd : Nat) (ws : List Nat) (gap : Nat) : FlatSh (shOf (flatN kd ws gap)) kd ws gap := by
 have hn : ∀ i (h : i < ws.length), nth (flatN kd ws gap) (i + 1) = ⟨0, 1, ws[i], gap⟩ := fun i h => nth_at (flatN_leaf h)
 refine ⟨flatN_len kd ws gap, fun i => ?_, rfl, fun i => ?_, fun i h => ?_, fun i h => ?_, fun h => ?_, fun i => ?_⟩
 · show (nth (flatN kd ws gap) i).par.toNat = 0
   rw [nth_flat_par]; rfl
 · show (nth (flatN kd ws gap) (i + 1)).kind.toNat = 1
   rw [nth_flat_kind]; rfl
 · show (nth (flatN kd ws gap) (i + 1)).wt = _
   rw [hn i h]
 · show (nth (flatN kd ws gap) (i + 1)).gap = _
   rw [hn i h]
 · refine decide_eq_false (fun h9 => h9 1 (by rw [flatN_len]; omega) (by omega) ?_)
   rw [nth_flat_par]; rfl
 · refine decide_eq_true (fun j _ _ h9 => ?_)
   rw [nth_flat_par] at h9
   exact absurd h9 (by simp)
section
variable {sh : Sh} {s : TS} {kd gap room : Nat} {ws : List Nat}
theorem pass_still (hH : s.H = []) (t : Nat) (ht : t ≤ s.now) : pass sh s t = s := by
 have e : meas s.H = 0 := by rw [hH]; rfl
 unfold pass
 rw [e]
 show ({ s with now := max s.now t } : TS) = s
 rw [Nat.max_eq_left ht]
/-- A packet that is let in where nothing is held back. -/
def put1 (sh : Sh) (s : TS) (i : Nat) (p : Nat × Nat × Nat) : TS := entered sh (entered sh { s with m := s.m + 1 } (i + 1) ((0 : Int), p) p.2.2) 0 (chi (i + 1)) p.2.2
theorem flat_push (hf : FlatSh sh kd ws 0) (hH : s.H = []) {i : Nat} (hi : i < ws.length) (p : Nat × Nat × Nat) :
 push sh room s 0 ((i + 1 : Nat) : Int) p = if p.2.2 = 0 ∨ 65535 < p.2.2 then (12, s) else if room ≤ s.m then (20, s) else (0, put1 sh s i p) := by
 have hn := hf.n
 unfold push
 rw [pass_still hH 0 (Nat.zero_le _)]
 simp only [Int.toNat_natCast]
 rw [if_neg (by omega), if_neg (by rw [hf.l1]; simp)]
 split
 · rfl
 · split
   · rfl
   · have e1 : come sh 32 { s with m := s.m + 1 } s.now (i + 1) ((0 : Int), p) p.2.2 = put1 sh s i p := by
      unfold come
      rw [if_neg (by omega), if_pos (hf.g1 i hi), hf.par]
      unfold come
      rw [if_pos rfl]
      rfl
     rw [e1]
     congr 1
     refine pass_still ?_ _ ?_
     · unfold put1; rw [entered_H, entered_H]; exact hH
     · unfold put1; rw [entered_now, entered_now]; exact Nat.le_refl _
theorem put1_q (hf : FlatSh sh kd ws 0) (i : Nat) (p : Nat × Nat × Nat) (hz : ∀ a ∈ s.q (i + 1), a.1 = 0) (j : Nat) :
 (put1 sh s i p).q j = if j = 0 then ins (rk sh { s with m := s.m + 1 } 0 (chi (i + 1))) (chi (i + 1)) (s.q 0) else if j = i + 1 then s.q (i + 1) ++ [(0, ((0 : Int), p))] else s.q j := by
 have h1 : tagged sh { s with m := s.m + 1 } (i + 1) ((0 : Int), p) p.2.2 = { s with m := s.m + 1 } := if_neg (fun h => by rw [hf.k1] at h; exact absurd h.1 (by omega))
 have h2 : rk sh { s with m := s.m + 1 } (i + 1) ((0 : Int), p) = 0 := if_pos (hf.k1 i)
 have h3 : ins 0 ((0 : Int), p) (s.q (i + 1)) = s.q (i + 1) ++ [(0, ((0 : Int), p))] := by
  have := ins_behind (r := 0) (x := ((0 : Int), p)) (A := s.q (i + 1)) (B := []) (fun a ha => by rw [hz a ha]; exact Nat.le_refl _)
  rw [List.append_nil] at this
  exact this
 have e1 : (entered sh { s with m := s.m + 1 } (i + 1) ((0 : Int), p) p.2.2).q = up s.q (i + 1) (s.q (i + 1) ++ [(0, ((0 : Int), p))]) := by
  rw [entered_q, h2]; show up s.q (i + 1) (ins 0 ((0 : Int), p) (s.q (i + 1))) = _; rw [h3]
 unfold put1
 rw [entered_q, e1]
 have e2 : rk sh (entered sh { s with m := s.m + 1 } (i + 1) ((0 : Int), p) p.2.2) 0 (chi (i + 1)) = rk sh { s with m := s.m + 1 } 0 (chi (i + 1)) := by
  unfold entered rk
  rw [h1]
 rw [e2, up_off s.q (by omega : (0 : Nat) ≠ i + 1)]
 unfold up
 split
 · rfl
 · rfl
theorem put1_H (i : Nat) (p : Nat × Nat × Nat) : (put1 sh s i p).H = s.H := by unfold put1; rw [entered_H, entered_H]
theorem put1_now (i : Nat) (p : Nat × Nat × Nat) : (put1 sh s i p).now = s.now := by unfold put1; rw [entered_now, entered_now]
theorem put1_m (i : Nat) (p : Nat × Nat × Nat) : (put1 sh s i p).m = s.m + 1 := by unfold put1; rw [entered_m, entered_m]
/-- A packet that leaves. -/
def got (sh : Sh) (s : TS) (r : Nat) (t0 : List (Nat × El)) (i : Nat) (t1 : List (Nat × El)) : TS :=
 { stepped sh { s with m := s.m - 1 } 0 r t0 with q := up (up s.q 0 t0) (i + 1) t1 }
/-- What leaves, and what is left. -/
theorem flat_pop (hs : sh.Ok) (hf : FlatSh sh kd ws gap) (hw : 0 < ws.length) {s1 : TS} {t : Nat} (hp : pass sh s t = s1) (hg1 : Good sh room s1) :
 (pop sh s t = ((0, 0, 0), 18, s1) ∧ s1.m = 0) ∨ (pop sh s t = ((0, 0, 0), 19, s1) ∧ s1.q 0 = []) ∨
 ∃ r t0 i r1 p t1, s1.q 0 = (r, chi (i + 1)) :: t0 ∧ i < ws.length ∧ s1.q (i + 1) = (r1, ((0 : Int), p)) :: t1 ∧ pop sh s t = (p, 0, got sh s1 r t0 i t1) := by
 unfold pop
 rw [hp]
 simp only
 by_cases hm : s1.m = 0
 · rw [if_pos hm]; exact .inl ⟨rfl, hm⟩
 · rw [if_neg hm]
   by_cases hq : s1.q 0 = []
   · rw [if_pos hq]; exact .inr (.inl ⟨rfl, hq⟩)
   · rw [if_neg hq]
     right; right
     have hn := hf.n
     cases hq0 : s1.q 0 with
     | nil => exact absurd hq0 hq
     | cons a t0 =>
       obtain ⟨r, e⟩ := a
       obtain ⟨c, hc, hc0, hc1, hc2, hc3, hc4, hc5⟩ := (taken hs hg1.bal hs.pos hq0).2 (hf.l0 hw)
       have hc2 : e = chi c := hc2
       subst hc2
       obtain ⟨i, rfl⟩ : ∃ i, c = i + 1 := ⟨c - 1, by omega⟩
       have hi : i < ws.length := by omega
       cases hq1 : s1.q (i + 1) with
       | nil => exact absurd hq1 hc3
       | cons b t1 =>
         obtain ⟨r1, e1⟩ := b
         have hpk := hg1.bal.lf (i + 1) (by omega) (hf.l1 i) (r1, e1) (by rw [hq1]; exact List.mem_cons_self ..)
         obtain ⟨e10, p⟩ := e1
         have he : e10 = 0 := hpk.1
         subst he
         have e3 : stepped sh { s1 with m := s1.m - 1 } 0 r t0 = if sh.kind 0 = 3 then { s1 with m := s1.m - 1, q := up s1.q 0 t0, vi := up s1.vi 0 r } else { s1 with m := s1.m - 1, q := up s1.q 0 t0 } := rfl
         have hd : down sh 32 { s1 with m := s1.m - 1 } 0 = (((0 : Int), p), got sh s1 r t0 i t1) := by
          have e1 : down sh 32 { s1 with m := s1.m - 1 } 0 = down sh 31 (stepped sh { s1 with m := s1.m - 1 } 0 r t0) (i + 1) := by
           show (match ({ s1 with m := s1.m - 1 } : TS).q 0 with | [] => _ | (r, e) :: t => _) = _
           simp only [hq0]
           rw [if_neg (by rw [hf.l0 hw]; simp)]
           rfl
          rw [e1]
          have e2 : (stepped sh { s1 with m := s1.m - 1 } 0 r t0).q = up s1.q 0 t0 := (stepped_gone (sh := sh) (s := { s1 with m := s1.m - 1 }) 0 r t0).2
          show (match (stepped sh { s1 with m := s1.m - 1 } 0 r t0).q (i + 1) with | [] => _ | (r, e) :: t => _) = _
          rw [e2, up_off _ (by omega), hq1]
          simp only
          rw [if_pos (hf.l1 i)]
          rfl
         refine ⟨r, t0, i, r1, p, t1, rfl, hi, hq1, ?_⟩
         rw [hd]
end
end Go.Proofs.YtpgpjjkeginbbaaGreatDoor.Tree

