/- TreeLeast0, TreeLeast, one behind the other. -/
import Derived.Test.YtllfloapiliheaaDoorMTreeFl
import Derived.Deep.RegionHeld3
import Derived.Deep.CutBlock
import Derived.BigQuiet
import Derived.OwnWalk
namespace Go.Proofs.YtllfloapiliheaaDoor.Tree
open HeapE (El)
open WheelR (Ri)
open Cal (ins Rises ins_mem ins_len ins_rises ins_behind)
/-- What the law knows of a tree of the kind Least, of which so many wait. -/
structure Lst (sh : Sh) (ws : List Nat) (s : TS) (W : List Nat) : Prop where
  H : s.H = []
  now : s.now = 0
  len : W.length = ws.length
  cnt : ∀ i x, W[i]? = some x → (s.q (i + 1)).length = x
  zero : ∀ i, i < ws.length → ∀ a ∈ s.q (i + 1), a.1 = 0 ∧ a.2.2.1 = i
  rnk : ∀ a ∈ s.q 0, ∃ i x, ws[i]? = some x ∧ a = (x, chi (i + 1))
  ris : Rises (s.q 0)
section
variable {sh : Sh} {s : TS} {room : Nat} {ws W : List Nat}
theorem Good.qlen (h : Good sh room s) (hs : sh.Ok) {v : Nat} (hv : v < sh.n) : (s.q v).length ≤ room := by
  have h1 := h.bal.le hs v hv
  have h2 := h.tot
  have h3 := h.le
  have h4 := cntL_le v s.H
  unfold Tot at h2
  rw [if_neg (by omega)] at h1
  omega
theorem flat_push' (hf : FlatSh sh 2 ws 0) (hH : s.H = []) {i : Nat} (hi : i < ws.length) (p : Nat × Nat × Nat) : ∃ v s', push sh room s 0 ((i + 1 : Nat) : Int) p = (v, s') ∧ ((v ≠ 0 ∧ s' = s) ∨ (v = 0 ∧ s' = put1 sh s i p)) := by
  rw [flat_push hf hH hi]
  split
  · exact ⟨_, _, rfl, .inl ⟨by omega, rfl⟩⟩
  · split
    · exact ⟨_, _, rfl, .inl ⟨by omega, rfl⟩⟩
    · exact ⟨_, _, rfl, .inr ⟨rfl, rfl⟩⟩
theorem Lst.push (hf : FlatSh sh 2 ws 0) (h : Lst sh ws s W) {i x : Nat} (hi : i < ws.length) (hx : W[i]? = some x) (id len : Nat) : Lst sh ws (put1 sh s i (i, id, len)) (W.set i (x + 1)) := by
  have hq := put1_q (s := s) hf i (i, id, len) (fun a ha => (h.zero i hi a ha).1)
  have hrk : rk sh { s with m := s.m + 1 } 0 (chi (i + 1)) = ws[i] := by
    unfold rk
    rw [hf.k0, if_neg (by omega), if_pos rfl, hf.l0 (by omega), if_neg (by simp)]
    show sh.wt (((i + 1 : Nat) : Int)).toNat = _
    rw [Int.toNat_natCast, hf.w1 i hi]
  refine ⟨by rw [put1_H]; exact h.H, by rw [put1_now]; exact h.now, by rw [List.length_set]; exact h.len, fun j y hy => ?_, fun j hj a ha => ?_, fun a ha => ?_, ?_⟩
  · rw [hq, if_neg (by omega)]
    rw [List.getElem?_set] at hy
    by_cases e : i = j
    · subst e
      rw [if_pos rfl, if_pos (by rw [h.len]; exact hi)] at hy
      rw [if_pos rfl, List.length_append, h.cnt i x hx]
      exact Option.some.inj hy
    · rw [if_neg e] at hy
      rw [if_neg (by omega)]
      exact h.cnt j y hy
  · rw [hq, if_neg (by omega)] at ha
    by_cases e : j = i
    · subst e
      rw [if_pos rfl] at ha
      rcases List.mem_append.1 ha with ha | ha
      · exact h.zero j hj a ha
      · rw [List.mem_singleton] at ha; subst ha; exact ⟨rfl, rfl⟩
    · rw [if_neg (by omega)] at ha
      exact h.zero j hj a ha
  · rw [hq, if_pos rfl, hrk] at ha
    rcases ins_mem.1 ha with rfl | ha
    · exact ⟨i, _, List.getElem?_eq_getElem hi, rfl⟩
    · exact h.rnk a ha
  · rw [hq, if_pos rfl]
    exact ins_rises h.ris
theorem got_q (r : Nat) (t0 : List (Nat × El)) (i : Nat) (t1 : List (Nat × El)) (j : Nat) : (got sh s r t0 i t1).q j = if j = i + 1 then t1 else if j = 0 then t0 else s.q j := by
  show up (up s.q 0 t0) (i + 1) t1 j = _
  unfold up
  rfl
theorem got_H (r : Nat) (t0 : List (Nat × El)) (i : Nat) (t1 : List (Nat × El)) : (got sh s r t0 i t1).H = s.H := (stepped_gone (sh := sh) (s := { s with m := s.m - 1 }) 0 r t0).1.H
theorem got_now (r : Nat) (t0 : List (Nat × El)) (i : Nat) (t1 : List (Nat × El)) : (got sh s r t0 i t1).now = s.now := (stepped_gone (sh := sh) (s := { s with m := s.m - 1 }) 0 r t0).1.now
theorem got_m (r : Nat) (t0 : List (Nat × El)) (i : Nat) (t1 : List (Nat × El)) : (got sh s r t0 i t1).m = s.m - 1 := (stepped_gone (sh := sh) (s := { s with m := s.m - 1 }) 0 r t0).1.m
theorem got_tg (r : Nat) (t0 : List (Nat × El)) (i : Nat) (t1 : List (Nat × El)) : (got sh s r t0 i t1).tg = s.tg := (stepped_gone (sh := sh) (s := { s with m := s.m - 1 }) 0 r t0).1.tg
theorem got_fr (r : Nat) (t0 : List (Nat × El)) (i : Nat) (t1 : List (Nat × El)) : (got sh s r t0 i t1).fr = s.fr := (stepped_gone (sh := sh) (s := { s with m := s.m - 1 }) 0 r t0).1.fr
theorem got_vi (r : Nat) (t0 : List (Nat × El)) (i : Nat) (t1 : List (Nat × El)) : (got sh s r t0 i t1).vi = if sh.kind 0 = 3 then up s.vi 0 r else s.vi := by
  show (stepped sh { s with m := s.m - 1 } 0 r t0).vi = _
  unfold stepped
  split <;> rfl
/-- What leaves is of a leaf of the least weight. -/
theorem Lst.pop (hs : sh.Ok) (hf : FlatSh sh 2 ws 0) (hw : 0 < ws.length) (hg : Good sh room s) (h : Lst sh ws s W) :
    (∃ v, v ≠ 0 ∧ pop sh s 0 = ((0, 0, 0), v, s)) ∨
    ∃ i id len x y s', pop sh s 0 = ((i, id, len), 0, s') ∧ i < ws.length ∧ W[i]? = some (x + 1) ∧ ws[i]? = some y ∧ Lst sh ws s' (W.set i x) ∧ ∀ (j a b : Nat), W[j]? = some a → ws[j]? = some b → 0 < a → y ≤ b := by
  have hp : pass sh s 0 = s := pass_still h.H 0 (Nat.zero_le _)
  rcases flat_pop hs hf hw hp hg with ⟨h1, _⟩ | ⟨h1, _⟩ | ⟨r, t0, i, r1, p, t1, h1, h2, h3, h4⟩
  · exact .inl ⟨18, by omega, h1⟩
  · exact .inl ⟨19, by omega, h1⟩
  · right
    have hn := hf.n
    obtain ⟨hz1, hz2⟩ := h.zero i h2 _ (by rw [h3]; exact List.mem_cons_self ..)
    obtain ⟨p1, p2, p3⟩ := p
    have hz2 : p1 = i := hz2
    subst hz2
    obtain ⟨i', y, hy, he⟩ := h.rnk (r, chi (p1 + 1)) (by rw [h1]; exact List.mem_cons_self ..)
    have hr : r = y := congrArg Prod.fst he
    have hi' : p1 = i' := by
      have h9 := congrArg (fun a : Nat × El => a.2.1) he
      change ((p1 + 1 : Nat) : Int) = ((i' + 1 : Nat) : Int) at h9
      omega
    subst hr
    subst hi'
    have hlen : (s.q (p1 + 1)).length = t1.length + 1 := by rw [h3]; rfl
    have hWi : W[p1]? = some (W[p1]'(by rw [h.len]; exact h2)) := List.getElem?_eq_getElem _
    have hWx := h.cnt p1 _ hWi
    rw [hlen] at hWx
    rw [← hWx] at hWi
    refine ⟨p1, p2, p3, t1.length, r, _, h4, h2, hWi, hy, ⟨by rw [got_H]; exact h.H, by rw [got_now]; exact h.now, by rw [List.length_set]; exact h.len, fun j z hz => ?_, fun j hj a ha => ?_, fun a ha => ?_, ?_⟩, fun j a b ha hb h0 => ?_⟩
    · rw [List.getElem?_set] at hz
      by_cases e : p1 = j
      · subst e
        rw [if_pos rfl, if_pos (by rw [h.len]; exact h2)] at hz
        rw [got_q, if_pos rfl]
        exact Option.some.inj hz
      · rw [if_neg e] at hz
        rw [got_q, if_neg (by omega), if_neg (by omega)]
        exact h.cnt j z hz
    · rw [got_q] at ha
      by_cases e : j = p1
      · subst e
        rw [if_pos rfl] at ha
        exact h.zero j hj a (by rw [h3]; exact List.mem_cons_of_mem _ ha)
      · rw [if_neg (by omega), if_neg (by omega)] at ha
        exact h.zero j hj a ha
    · rw [got_q, if_neg (by omega), if_pos rfl] at ha
      exact h.rnk a (by rw [h1]; exact List.mem_cons_of_mem _ ha)
    · rw [got_q, if_neg (by omega), if_pos rfl]
      have := h.ris
      rw [h1] at this
      exact (List.pairwise_cons.1 this).2
    · have hj : j < ws.length := by
        rcases Nat.lt_or_ge j ws.length with h' | h'
        · exact h'
        · rw [List.getElem?_eq_none h'] at hb; cases hb
      have hc := hg.bal.cnt (j + 1) (by omega) (by omega)
      rw [h.cnt j a ha, hf.par, h.H, if_neg (by omega)] at hc
      have hc2 : 0 < cntE (j + 1) (s.q 0) := by
        have : cntH (j + 1) ([] : List (Nat × Ri)) = 0 := rfl
        omega
      obtain ⟨e, he1, he2⟩ := List.countP_pos_iff.1 hc2
      have he2 : e.2.1 = ((j + 1 : Nat) : Int) := of_decide_eq_true he2
      obtain ⟨j', z, hz, hez⟩ := h.rnk e he1
      subst hez
      have hjj : j' = j := by
        change ((j' + 1 : Nat) : Int) = ((j + 1 : Nat) : Int) at he2
        omega
      subst hjj
      rw [hb] at hz
      cases hz
      rw [h1] at he1
      have hri := h.ris
      rw [h1] at hri
      rcases List.mem_cons.1 he1 with he1 | he1
      · exact Nat.le_of_eq (congrArg Prod.fst he1).symm
      · exact (List.pairwise_cons.1 hri).1 _ he1
end
end Go.Proofs.YtllfloapiliheaaDoor.Tree
namespace Go.Proofs.YtllfloapiliheaaDoor.Tree
open Go.RowKit Go.Proofs BigFrame
set_option maxHeartbeats 4000000
set_option maxRecDepth 1000000
abbrev TI64 : TypeId := 3
theorem infoI64 : (Tryd.prog.info? TI64).map (fun i => (i.zero, i.size, i.bytes)) = some (some (.int .i64 0), 1, 8) := by kernel_rfl
theorem made_list (n : Nat) (z : Value) : (madeCells #[z] (n * 1)).toList = List.replicate n z := by
  apply List.ext_getElem?
  intro i
  rw [List.getElem?_replicate]
  by_cases h : i < n
  · rw [if_pos h]; simp [madeCells, Nat.mod_one, h]
  · rw [if_neg h, List.getElem?_eq_none (by simp [madeCells]; omega)]
/-- A row of ints. -/
def intC (g k : Nat) (W : List Nat) : Comp := rowW TI64 1 (.slice (some ⟨g, 0, none⟩) k k) k (W.map (fun x => .int .i64 (x : Nat)))
section
variable {w0 w w' : World} {l : List Comp} {g k : Nat} {W : List Nat}
theorem int_made (h : Made w0 w l) (hu : Upd Nowhere w w') (ho : w'.ownsRow w.heap.size TI64 1 (.slice (some ⟨w.heap.size, 0, none⟩) k k) k (madeCells (Value.int .i64 0).cells (k * 1)).toList) : Made w0 w' (intC w.heap.size k (List.replicate k 0) :: l) := by
  refine h.more (C := intC w.heap.size k (List.replicate k 0)) (o := fun q => q = w.heap.size) ⟨?_, fun q => ⟨fun h => by rw [h]; rfl, fun h => (Option.some.inj h).symm⟩⟩ (fun q hq => by rw [hq]; exact Nat.le_refl _) hu
  have e : (madeCells (Value.int .i64 0).cells (k * 1)).toList = (List.replicate k 0).map (fun x => Value.int .i64 ((x : Nat) : Int)) := by
    show (madeCells #[.int .i64 0] (k * 1)).toList = _
    rw [made_list]
    simp
  rw [← e]
  exact ownsRow_base ho (Nat.zero_le _)
theorem int_at (l1 l2 : List Comp) (h : Made w0 w (l1 ++ intC g k W :: l2)) {i x : Nat} (hx : W[i]? = some x) : w.cell? ⟨g, i, none⟩ = some (.int .i64 (x : Nat)) ∧ w.frozen? ⟨g, i, none⟩ = false := by
  obtain ⟨o, h1, _, _⟩ := Made.foc _ _ _ h
  exact rowW_cell h1 (by rw [List.getElem?_map, hx]; rfl)
theorem int_set (l1 l2 : List Comp) (h : Made w0 w (l1 ++ intC g k W :: l2)) (i x : Nat) : Made w0 (w.setCell ⟨g, i, none⟩ (.int .i64 (x : Nat))) (l1 ++ intC g k (W.set i x) :: l2) := by
  obtain ⟨o, h1, _, h3⟩ := Made.foc _ _ _ h
  obtain ⟨a1, a2⟩ := rowW_set h1 i (.int .i64 (x : Nat))
  have e : (W.map (fun x => Value.int .i64 ((x : Nat) : Int))).set i (.int .i64 (x : Nat)) = (W.set i x).map (fun x => .int .i64 (x : Nat)) := by rw [List.map_set]
  rw [e] at a1
  exact h3 _ o (intC g k (W.set i x)) a1 a2
end
theorem least_big (ad : Option Addr) (k c : Nat) (ad2 : Option Addr) (n c2 : Nat) (w : World) (E : Env w) (h : k < 1 ∨ 20 < k ∨ 200 < n) :
    Calls Tryd.prog 4 #[.slice ad k c, .slice ad2 n c2] w fun e w' => e = .returned (.bool true) ∧ Upd Nowhere w w' := by
  have HL := Lib.hid (lives w E)
  clear E
  by_cases h1 : k < 1
  · have d1 : decide ((k : Int) < 1) = true := decide_eq_true (by omega)
    have d2 : decide (k < 1) = true := decide_eq_true h1
    clear h h1
    go_enter Tryd.func4, Tryd.ntmps4
    go_wp2_with fail
    refine (HL.out).mono ?_
    rintro e w1 ⟨rfl, u1⟩
    go_wp2_with fail
    go_ret
    exact ⟨rfl, u1⟩
  · have d1 : decide ((k : Int) < 1) = false := decide_eq_false (by omega)
    have d2 : decide (k < 1) = false := decide_eq_false h1
    by_cases h2 : 20 < k
    · have d3 : decide ((k : Int) > 20) = true := decide_eq_true (by omega)
      have d4 : decide (20 < k) = true := decide_eq_true h2
      clear h h1 h2
      go_enter Tryd.func4, Tryd.ntmps4
      go_wp2_with fail
      refine (HL.out).mono ?_
      rintro e w1 ⟨rfl, u1⟩
      go_wp2_with fail
      go_ret
      exact ⟨rfl, u1⟩
    · have d3 : decide ((k : Int) > 20) = false := decide_eq_false (by omega)
      have d4 : decide (20 < k) = false := decide_eq_false h2
      have d5 : decide ((n : Int) > 200) = true := decide_eq_true (by omega)
      have d6 : decide (200 < n) = true := decide_eq_true (by omega)
      clear h h1 h2
      go_enter Tryd.func4, Tryd.ntmps4
      go_wp2_with fail
      refine (HL.out).mono ?_
      rintro e w1 ⟨rfl, u1⟩
      go_wp2_with fail
      go_ret
      exact ⟨rfl, u1⟩
theorem least_walk (ad : Option Addr) (c : Nat) (ws : List Nat) (ad2 : Option Addr) (c2 : Nat) (l : List Act) (w : World) (E : Env w) (hw : Wts w ad ws) (hb : ∀ x ∈ ws, x < 4294967296) (h1 : 1 ≤ ws.length) (h20 : ws.length ≤ 20) (h200 : l.length ≤ 200) (ha : Acts w ad2 l) (hok : ∀ a ∈ l, a.Ok) :
    Calls Tryd.prog 4 #[.slice ad ws.length c, .slice ad2 l.length c2] w fun e w' => e = .returned (.bool true) ∧ Upd Nowhere w w' := by
  obtain ⟨i0, hi, hz0, hz1, hz2⟩ := info_parts infoI64
  have hf := flat_sh 2 ws 0
  have hsh := shOf_ok (l := flatN 2 ws 0) (flatN_ok (by omega) (by omega)) (by rw [flatN_len]; omega) (by rw [flatN_len]; omega) (flatN_fit hb (by omega))
  have HFL := Lib.hid (flat_ok 2 ad c ws 0 w hw hb (by omega))
  have HN := fun u adn cn (hm : Made w u []) (hn : NodesAt u adn (flatN 2 ws 0)) => Lib.hid (m_new (room := 4096) (cp := cn) hm E hn (by rw [flatN_len]; omega) (by rw [flatN_len]; omega) (flatN_ok (by omega) (by omega)) (by omega) (by omega))
  have HL := fun u (hu : Upd Nowhere w u) => Lib.hid (lives u (E.old hu))
  obtain ⟨n, hnl⟩ : ∃ n, l.length = n := ⟨_, rfl⟩
  obtain ⟨K, hK⟩ : ∃ K, ws.length = K := ⟨_, rfl⟩
  obtain ⟨sh, hsh2⟩ : ∃ sh, shOf (flatN 2 ws 0) = sh := ⟨_, rfl⟩
  rw [hsh2] at hsh HN hf
  rw [hK] at HFL h1 h20 ⊢
  rw [hnl] at h200 ⊢
  have HE := Lib.hid E
  have HA := Lib.hid ha
  have HO := Lib.hid hok
  have HNL := Lib.hid hnl
  have HKL := Lib.hid hK
  have HS := Lib.hid hsh
  have HF := Lib.hid hf
  have HW := Lib.hid hw
  have HB := Lib.hid hb
  clear E ha hok hnl hK hsh hf hw hb hsh2
  have d1 : decide ((K : Int) < 1) = false := decide_eq_false (by omega)
  have d2 : decide (K < 1) = false := decide_eq_false (by omega)
  have d3 : decide ((K : Int) > 20) = false := decide_eq_false (by omega)
  have d4 : decide (20 < K) = false := decide_eq_false (by omega)
  have d5 : decide ((n : Int) > 200) = false := decide_eq_false (by omega)
  have d6 : decide (200 < n) = false := decide_eq_false (by omega)
  go_enter Tryd.func4, Tryd.ntmps4
  go_wp2_with fail
  refine (HFL.out).mono ?_
  rintro e w1 ⟨⟨adn, cn, rfl, hnd⟩, u1⟩
  have HN1 := Lib.hid (HN w1 adn cn ((Made.start w).old u1) hnd).out
  clear HFL HN hnd u1
  go_wp2_with fail
  refine (HN1.out).mono ?_
  rintro e w2 ⟨L, rfl, h2⟩
  clear HN1 d1 d2 d3 d4 d5 d6
  go_wp2_with (at_make; go_loud (refine wpList_make_full _ rfl _ _ 32 rfl w2.heap.size TI64 i0 (.int .i64 0) 1 Tryd.underlying32 hi hz0 hz1 _ _ _ _ K rfl rfl rfl rfl (by rw [hz2]; omega) (by unfold maxLen; omega) (Nat.le_refl _) ?_; intro w3 ho3 hg3; have h3 := Lib.hid (int_made h2 (Upd.grown (Upd.refl _ _) hg3 (fun _ _ h => by cases h)) ho3); clear ho3 hg3 h2))
  obtain ⟨G, hG⟩ : ∃ G, w2.heap.size = G := ⟨_, rfl⟩
  rw [hG] at h3
  simp only [hG]
  clear hG hi hz0 hz1 hz2
  have hls : Lst sh ws s0 (List.replicate K 0) := ⟨rfl, rfl, by rw [List.length_replicate, HKL.out], fun i x hx => by
    have := List.eq_of_mem_replicate (List.mem_of_getElem? hx); rw [this]; rfl, fun i hi a ha => (by cases ha), fun a ha => (by cases ha), List.Pairwise.nil⟩
  have HLS := Lib.hid hls
  clear hls
  go_wp2_with fail
  go_loopw [46] (fun i wr => ∃ k : Nat, ∃ s W, i = .int .i64 k ∧ k ≤ n ∧ Lst sh ws s W ∧ Made w wr [intC G K W, treeC L sh 4096 s (k * 10000000)]) (fun i _ => n - (intOf i).toNat)
  case atStart => exact ⟨0, s0, _, rfl, Nat.zero_le _, HLS.out, h3.out⟩
  case round =>
    obtain ⟨k, s, W, rfl, hk, hls, hM⟩ := hrel
    obtain ⟨wB, rfl⟩ : ∃ x, x = wr := ⟨_, rfl⟩
    clear h3 HLS
    by_cases hlt : k < n
    · have hI : (k : Int) < n := by omega
      obtain ⟨x, hx⟩ : ∃ x, l[k]? = some x := ⟨l[k]'(by rw [HNL.out]; exact hlt), by simp⟩
      obtain ⟨o1, o2, o3, o4⟩ := HO.out x (List.mem_of_getElem? hx)
      obtain ⟨ga, oa, rfl, ⟨r0, r1, r2, r3, r4, r5⟩, ⟨r1', r2', r3', r4', r5'⟩⟩ := HA.out.get hM.upd hx
      obtain ⟨_, _, hgs⟩ := m_tree [intC G K W] [] hM
      have hM1 := m_blk hM (actA x) TAct
      obtain ⟨p, t, nd, fl, id, len⟩ := x
      simp only at r0 r1 r2 r3 r4 r5 r1' r2' r3' r4' r5' o1 o2 o3 o4
      have HGS := Lib.hid hgs
      have HLS := Lib.hid hls
      obtain ⟨XB, hXB⟩ : ∃ XB, wB.heap.size = XB := ⟨_, rfl⟩
      rw [hXB] at hM1
      have HM1 := Lib.hid hM1
      have HXB := Lib.hid hXB
      have hkk : k * 10000000 + 20000000 < 18446744073709551615 := by omega
      have hkk2 : (k + 1) * 10000000 = k * 10000000 + 10000000 := Nat.succ_mul k _
      clear hM hM1 hgs hx hXB hls
      go_upto_region 10 with fail
      have hXB := HXB.out
      try simp only [hXB]
      clear hXB
      generalize wB.alloc (.cells #[.bool p, .int .u64 t, .int .i64 nd, .int .u32 fl, .int .u32 id, .int .u64 len] TAct) = w4 at *
      have hc0 : w4.cell? ⟨XB, 0, none⟩ = some (.bool p) := by
        obtain ⟨o, h1, _, _⟩ := Made.foc (blkC XB _ TAct) [intC G K W, treeC L sh 4096 s (k * 10000000)] [] HM1.out
        exact h1.1.cellAt rfl
      obtain ⟨x1, x2, x3, x4, x5⟩ := x_cells HM1.out
      simp only at x1 x2 x3 x4 x5
      clear r0 r1 r2 r3 r4 r5 r1' r2' r3' r4' r5'
      cases p with
      | true =>
        rcases HLS.out.pop HS.out HF.out (by rw [HKL.out]; omega) HGS.out with ⟨v, hv0, hv⟩ | ⟨i, id', len', y, z, s', hv, hi, hWi, hwi, hl2, hmin⟩
        · have q0 : ((v : Int) == 0) = false := by simp; omega
          have q1 : ((v : Int) != 0) = true := by simp; omega
          go_wp2_with fail
          refine (m_pop [blkC XB _ TAct, intC G K W] [] HM1.out HE.out HS.out (by omega) hkk (by omega) hv).mono ?_
          rintro e w5 ⟨rfl, h5⟩
          have H5 := Lib.hid (h5.drop.old ((Upd.refl Nowhere w5).alloc (.cells #[.int .u32 0, .int .u32 0, .int .u64 0] TPk)))
          clear h5 hc0 x1 x2 x3 x4 x5 HM1 hv hv0
          go_wp2_with fail
          go_roundw
          case rel => exact ⟨k + 1, s, W, by first | rfl | go_num, by omega, HLS.out, by rw [hkk2]; exact H5.out⟩
          case measure => simp [intOf]; omega
        · have hi20 : i < 20 := by have h9 := hi; rw [HKL.out] at h9; omega
          go_wp2_with fail
          refine (m_pop [blkC XB _ TAct, intC G K W] [] HM1.out HE.out HS.out (by omega) hkk (by omega) hv).mono ?_
          rintro e w5 ⟨rfl, h5⟩
          have h5 := m_blk h5.drop #[.int .u32 i, .int .u32 id', .int .u64 len'] TPk
          clear hc0 x1 x2 x3 x4 x5 HM1 hv
          go_upto_region 15 with fail
          generalize w5.alloc (.cells #[.int .u32 i, .int .u32 id', .int .u64 len'] TPk) = w6 at *
          generalize w5.heap.size = PB at *
          obtain ⟨_, hq, _, _⟩ := Made.foc (blkC PB #[.int .u32 i, .int .u32 id', .int .u64 len'] TPk) _ [] h5
          obtain ⟨p0, p1, p2, -⟩ := cells3 hq.1
          have H6 := Lib.hid h5.drop
          obtain ⟨z0, z1⟩ := int_at [] [treeC L sh 4096 s' (k * 10000000 + 10000000)] H6.out hWi
          have hiK : i < K := by rw [← HKL.out]; exact hi
          obtain ⟨gw, ow, rfl, q0⟩ := HW.out.get H6.out.upd hwi
          have hmn := hmin
          have HMIN := Lib.hid hmn
          have HL2 := Lib.hid hl2
          have HWI := Lib.hid hWi
          have HWW := Lib.hid hwi
          have hzb := HB.out z (List.mem_of_getElem? hwi)
          have g1 : decide ((i : Int) ≥ (K : Int)) = false := decide_eq_false (by omega)
          have g2 : decide (K ≤ i) = false := decide_eq_false (by omega)
          have g3 : decide (((y + 1 : Nat) : Int) ≤ 0) = false := decide_eq_false (by omega)
          have hiKI : (i : Int) < (K : Int) := by omega
          have e1 : IntKind.i64.wrap (i : Int) = (i : Int) := by rw [IntKind.wrap_i64]; omega
          clear h5 hq hmn hmin hl2 hWi hwi hi
          obtain ⟨Y, hY⟩ : ∃ Y, y + 1 = Y := ⟨_, rfl⟩
          rw [hY] at z0 g3
          have HY := Lib.hid hY
          have hY4 : Y ≤ 4097 := by
            have h9 := HGS.out.qlen HS.out (v := i + 1) (by rw [HF.out.n, HKL.out]; omega)
            rw [HLS.out.cnt i _ HWI.out] at h9
            omega
          have g4 : decide (Y = 0) = false := decide_eq_false (by omega)
          have g5 : decide (Y ≤ 0) = false := decide_eq_false (by omega)
          have g6 : ¬ Y = 0 := by omega
          clear hY
          go_upto_region 19 with fail
          go_wp2_with fail
          go_loopw [101] (fun i2 wr => ∃ j : Nat, i2 = .int .i64 j ∧ j ≤ K ∧ Made w wr [intC G K W, treeC L sh 4096 s' (k * 10000000 + 10000000)]) (fun i2 _ => K - (intOf i2).toNat)
          case atStart => exact ⟨0, rfl, Nat.zero_le _, H6.out⟩
          case round =>
            obtain ⟨j, rfl, hj, hM7⟩ := hrel
            obtain ⟨w7, rfl⟩ : ∃ x, x = wr := ⟨_, rfl⟩
            clear z0 z1 q0 H6 p0 p1 p2
            obtain ⟨z0, z1⟩ := int_at [] [treeC L sh 4096 s' (k * 10000000 + 10000000)] hM7 HWI.out
            rw [HY.out] at z0
            obtain ⟨_, _, he, q0⟩ := HW.out.get hM7.upd HWW.out
            cases he
            have H7 := Lib.hid hM7
            clear hM7
            by_cases hjl : j < K
            · have hI7 : (j : Int) < K := by omega
              obtain ⟨a, hWa⟩ : ∃ a, W[j]? = some a := ⟨W[j]'(by rw [HLS.out.len, HKL.out]; exact hjl), List.getElem?_eq_getElem _⟩
              obtain ⟨b, hwb⟩ : ∃ b, ws[j]? = some b := ⟨ws[j]'(by rw [HKL.out]; exact hjl), List.getElem?_eq_getElem _⟩
              obtain ⟨z2, z3⟩ := int_at [] [treeC L sh 4096 s' (k * 10000000 + 10000000)] H7.out hWa
              obtain ⟨_, _, he, q2⟩ := HW.out.get H7.out.upd hwb
              cases he
              have hmj := HMIN.out j a b hWa hwb
              clear hWa hwb
              by_cases ha0 : 0 < a
              · have hzb2 := hmj ha0
                have t1 : decide ((a : Int) > 0) = true := decide_eq_true (by omega)
                have t2 : decide (0 < a) = true := decide_eq_true ha0
                have t3 : decide ((b : Int) < (z : Int)) = false := decide_eq_false (by omega)
                have t4 : decide (b < z) = false := decide_eq_false (by omega)
                clear hmj ha0 hzb2
                go_upto_region 22 with fail
                go_quiet (fail)
                go_wp2_with fail
                go_roundw
                case rel => exact ⟨j + 1, by first | rfl | go_num, by omega, H7.out.old ((Upd.refl _ _).drewN _)⟩
                case measure => simp [intOf]; omega
              · have t1 : decide ((a : Int) > 0) = false := decide_eq_false (by omega)
                have t2 : decide (0 < a) = false := decide_eq_false ha0
                clear hmj ha0
                go_upto_region 22 with fail
                go_quiet (fail)
                go_wp2_with fail
                go_roundw
                case rel => exact ⟨j + 1, by first | rfl | go_num, by omega, H7.out.old ((Upd.refl _ _).drewN _)⟩
                case measure => simp [intOf]; omega
            · obtain rfl : j = K := by omega
              have hI7 : ¬ (j : Int) < j := by omega
              have hyi : (Y : Int) - 1 = (y : Int) := by have := HY.out; omega
              have H8 := Lib.hid (int_set [] [treeC L sh 4096 s' (k * 10000000 + 10000000)] H7.out i y)
              have hY0 : 1 ≤ Y := by have := HY.out; omega
              clear HMIN
              go_wp2_with fail
              go_roundw
              case rel => exact ⟨k + 1, _, _, by first | rfl | go_num, by omega, HL2.out, by rw [hkk2]; exact H8.out⟩
              case measure => simp [intOf]; omega
      | false =>
        obtain ⟨U, hU⟩ : ∃ U : Nat, IntKind.u64.wrap nd = (U : Int) := ⟨(IntKind.u64.wrap nd).toNat, by rw [IntKind.wrap_u64]; omega⟩
        obtain ⟨i, hi⟩ : ∃ i, U % K = i := ⟨_, rfl⟩
        have hiK : i < K := by rw [← hi]; exact Nat.mod_lt _ (by omega)
        have e1 : IntKind.u64.wrap (K : Int) = (K : Int) := by rw [IntKind.wrap_u64]; omega
        have e2 : (U : Int).tmod (K : Int) = (i : Int) := by rw [Int.tmod_eq_emod_of_nonneg (by omega)]; omega
        have e2' : (U : Int) % (K : Int) = (i : Int) := by omega
        have hK0 : ¬ (K : Int) = 0 := by omega
        have hK1 : ¬ K = 0 := by omega
        clear hi
        obtain ⟨i1, hi1⟩ : ∃ i1, i + 1 = i1 := ⟨_, rfl⟩
        have e3 : IntKind.u32.wrap (i : Int) = (i : Int) := by rw [IntKind.wrap_u32]; omega
        have e4 : (i : Int) + 1 = (i1 : Int) := by omega
        have hi2 : i < ws.length := by rw [HKL.out]; exact hiK
        obtain ⟨v, s', hv, hor⟩ := flat_push' (room := 4096) HF.out HLS.out.H hi2 (i, 0, len)
        rw [hi1] at hv
        have HOR := Lib.hid hor
        have HI1 := Lib.hid hi1
        clear hor hi1
        go_wp2_with fail
        refine (m_push [blkC XB _ TAct, intC G K W] [] HM1.out HE.out HS.out (by omega) hkk (by omega) i1 i 0 len (by omega) (by omega) o4 hv).mono ?_
        rintro e w5 ⟨rfl, h5⟩
        have H5 := Lib.hid h5.drop
        clear h5 hc0 x1 x2 x3 x4 x5 HM1
        by_cases hv0 : v = 0
        · have q0 : ((v : Int) == 0) = true := by simp; omega
          have hs' : s' = put1 sh s i (i, 0, len) := HOR.out.elim (fun h => absurd hv0 h.1) (fun h => h.2)
          subst hs'
          obtain ⟨y, hy⟩ : ∃ y, W[i]? = some y := ⟨W[i]'(by rw [HLS.out.len]; exact hi2), List.getElem?_eq_getElem _⟩
          have hy4 : y ≤ 4096 := by
            have h9 := HGS.out.qlen HS.out (v := i + 1) (by rw [HF.out.n]; omega)
            rw [HLS.out.cnt i y hy] at h9
            exact h9
          have hl2 := HLS.out.push HF.out hi2 hy 0 len
          obtain ⟨y1, hy1⟩ : ∃ y1, y + 1 = y1 := ⟨_, rfl⟩
          rw [hy1] at hl2
          have e5 : (y : Int) + 1 = (y1 : Int) := by omega
          have hy5 : y1 ≤ 4097 := by omega
          have HL2 := Lib.hid hl2
          obtain ⟨z0, z1⟩ := int_at [] [treeC L sh 4096 (put1 sh s i (i, 0, len)) (k * 10000000 + 10000000)] H5.out hy
          have H6 := Lib.hid (int_set [] [treeC L sh 4096 (put1 sh s i (i, 0, len)) (k * 10000000 + 10000000)] H5.out i y1)
          have hiK2 : (i : Int) < (K : Int) := by omega
          clear hl2 hy hy1 hv0 HOR
          go_wp2_with fail
          go_roundw
          case rel => exact ⟨k + 1, _, _, by first | rfl | go_num, by omega, HL2.out, by rw [hkk2]; exact H6.out⟩
          case measure => simp [intOf]; omega
        · have q0 : ((v : Int) == 0) = false := by simp; omega
          have hs' : s' = s := HOR.out.elim (fun h => h.2) (fun h => absurd h.1 hv0)
          subst hs'
          clear HOR hv0
          go_wp2_with fail
          go_roundw
          case rel => exact ⟨k + 1, _, _, by first | rfl | go_num, by omega, HLS.out, by rw [hkk2]; exact H5.out⟩
          case measure => simp [intOf]; omega
    · obtain rfl : k = n := by omega
      have hI : ¬ (k : Int) < k := by omega
      have hlv := Lib.hid (HL _ hM.upd).out
      have hu := hM.upd
      clear hM HL
      go_wp2_with fail
      refine hlv.out.mono ?_
      rintro e w9 ⟨rfl, u9⟩
      go_wp2_with fail
      go_ret
      exact ⟨rfl, hu.trans u9 (fun _ _ h => h)⟩
theorem least_law (v : Value) (li : List Int) (v2 : Value) (l : List Act) (hok : ∀ a ∈ l, a.later ≤ 18446744073709551615 ∧ a.fl ≤ 4294967295 ∧ a.id ≤ 4294967295 ∧ a.len ≤ 18446744073709551615) (w : World) (hr : RowAt w v (li.map (.int .u32))) (hwf : ∀ n ∈ li, (Lit.int .u32 n).wf = true) (hv2 : RowsAt w v2 l.length (l.flatMap act)) (E : Env w) :
    Calls Tryd.prog 4 #[v, v2] w fun e w' => e = .returned (.bool true) ∧ Upd Nowhere w w' := by
  obtain ⟨ad, c, rfl, hw, hb⟩ := wts_of hr hwf
  obtain ⟨ad2, c2, rfl, ha⟩ := acts_of hv2
  have hok2 : ∀ a ∈ l, a.Ok := fun a h => ⟨(hok a h).1, Nat.lt_succ_of_le (hok a h).2.1, Nat.lt_succ_of_le (hok a h).2.2.1, (hok a h).2.2.2⟩
  by_cases h : (li.map Int.toNat).length < 1 ∨ 20 < (li.map Int.toNat).length ∨ 200 < l.length
  · exact least_big ad _ c ad2 l.length c2 w E h
  · exact least_walk ad c _ ad2 c2 l w E hw hb (by omega) (by omega) (by omega) ha hok2
end Go.Proofs.YtllfloapiliheaaDoor.Tree
