/- EgLaw, EgStart, one behind the other. -/
import Derived.Test.YtdddfmdcjjbegaaGreatMeP
import Derived.Test.YtdddfmdcjjbegaaGreatMeConf
import Derived.Test.YtdddfmdcjjbegaaGreatMeOpen
import Derived.Test.YtdddfmdcjjbegaaGreatMeN3
namespace Go.Proofs.YtdddfmdcjjbegaaGreat.Egs
open Go.RowKit Go.Proofs BigFrame
open RingW (It KI zI ZI VI TE)
open First (Cf VC TCl)
set_option maxHeartbeats 4000000
set_option maxRecDepth 1000000
set_option linter.unusedSimpArgs false
theorem flatW_at {α β : Type} {W : Nat} (f : α → List β) (hf : ∀ a, (f a).length = W) : ∀ {l : List α} {k : Nat} {a : α}, l[k]? = some a → ∀ {j : Nat}, j < W → (l.flatMap f)[k * W + j]? = (f a)[j]?
 | [], _, _, h, _, _ => by simp at h
 | x :: r, k, a, h, j, hj => by
   rw [List.flatMap_cons]
   cases k with
   | zero =>
     simp only [List.getElem?_cons_zero] at h; cases h
     rw [Nat.zero_mul, Nat.zero_add, List.getElem?_append_left (by rw [hf]; exact hj)]
   | succ k =>
     simp only [List.getElem?_cons_succ] at h
     have e : (k + 1) * W = k * W + W := Nat.succ_mul k W
     rw [List.getElem?_append_right (by rw [hf]; omega), hf, show (k + 1) * W + j - W = k * W + j by omega]
     exact flatW_at f hf h hj
/-- What is done. -/
structure Act where
 kind : Nat
 cls : Int
 rank : Nat
 len : Nat
 ticks : Nat
abbrev TAc : TypeId := 39
abbrev actA (a : Act) : Array Value := #[.int .u8 a.kind, .int .i64 a.cls, .int .u64 a.rank, .int .u64 a.len, .int .u64 a.ticks]
def act (a : Act) : List Value := [.int .u8 a.kind, .int .i64 a.cls, .int .u64 a.rank, .int .u64 a.len, .int .u64 a.ticks]
def Act.Ok (a : Act) : Prop := a.kind ≤ 255 ∧ a.rank ≤ 18446744073709551615 ∧ a.len ≤ 18446744073709551615 ∧ a.ticks ≤ 18446744073709551615
/-- Acts, in a row in memory. -/
def ActsAt (w : World) (ad : Option Addr) (l : List Act) : Prop := ∀ i x, l[i]? = some x → ∃ g o, ad = some ⟨g, o, none⟩ ∧ ∀ j v, (act x)[j]? = some v → w.cell? ⟨g, o + i * 5 + j, none⟩ = some v
theorem ActsAt.get {w wB : World} {ad : Option Addr} {l : List Act} (h : ActsAt w ad l) (hu : Upd Nowhere w wB) {k : Nat} {a : Act} (hx : l[k]? = some a) : ∃ g o, ad = some ⟨g, o, none⟩ ∧
 wB.cell? ⟨g, o + k * 5, none⟩ = some (.int .u8 a.kind) ∧ wB.cell? ⟨g, o + k * 5 + 1, none⟩ = some (.int .i64 a.cls) ∧ wB.cell? ⟨g, o + k * 5 + 2, none⟩ = some (.int .u64 a.rank) ∧ wB.cell? ⟨g, o + k * 5 + 3, none⟩ = some (.int .u64 a.len) ∧ wB.cell? ⟨g, o + k * 5 + 4, none⟩ = some (.int .u64 a.ticks) := by
 obtain ⟨g, o, rfl, h2⟩ := h k a hx
 exact ⟨g, o, rfl, cell_old hu (h2 0 _ rfl), cell_old hu (h2 1 _ rfl), cell_old hu (h2 2 _ rfl), cell_old hu (h2 3 _ rfl), cell_old hu (h2 4 _ rfl)⟩
theorem rows_get {X : Type} {f : X → List Value} {C : Nat} (hf : ∀ x, (f x).length = C) (hC : 0 < C) {w : World} {v : Value} {l : List X} (h : RowsAt w v l.length (l.flatMap f)) :
 ∃ ad c, v = .slice ad l.length c ∧ (ad = none → l.length = 0 ∧ c = 0) ∧ ∀ i x, l[i]? = some x → ∃ g o, ad = some ⟨g, o, none⟩ ∧ ∀ j u, (f x)[j]? = some u → w.cell? ⟨g, o + i * C + j, none⟩ = some u := by
 obtain ⟨ad, ca, rfl, h0, _, hca, hc⟩ := h
 refine ⟨ad, ca, rfl, h0, fun i x hx => ?_⟩
 have hlt : i < l.length := by
  rcases Nat.lt_or_ge i l.length with h' | h'
  · exact h'
  · rw [List.getElem?_eq_none h'] at hx; cases hx
 cases ad with
 | none => have := (h0 rfl).1; omega
 | some b =>
   have at_ : ∀ j u, (f x)[j]? = some u → (l.flatMap f)[i * C + j]? = some u := fun j u hu => by
    have hj : j < C := by
     rcases Nat.lt_or_ge j C with h' | h'
     · exact h'
     · rw [List.getElem?_eq_none (by rw [hf]; exact h')] at hu; cases hu
    rw [flatW_at f hf hx hj]; exact hu
   have h0' : (f x)[0]? = some ((f x)[0]'(by rw [hf]; exact hC)) := List.getElem?_eq_getElem _
   have hs := (hc b rfl _ _ (at_ _ _ h0')).1
   obtain ⟨g, o, sp⟩ := b
   simp only at hs
   subst hs
   exact ⟨g, o, rfl, fun j u hu => by rw [Nat.add_assoc]; exact (hc _ rfl _ _ (at_ j u hu)).2⟩
theorem acts_of {w : World} {v : Value} {l : List Act} (h : RowsAt w v l.length (l.flatMap act)) : ∃ ad c, v = .slice ad l.length c ∧ ActsAt w ad l := by
 obtain ⟨ad, c, h1, _, h2⟩ := rows_get (f := act) (C := 5) (fun _ => rfl) (by omega) h
 exact ⟨ad, c, h1, h2⟩
theorem cls_of {w : World} {v : Value} {l : List Cf} (h : RowsAt w v l.length (l.flatMap fun c => (VC c).toList)) : ∃ ad c, v = .slice ad l.length c ∧ ClsAt w ad l := by
 obtain ⟨ad, c, h1, _, h2⟩ := rows_get (f := fun c => (VC c).toList) (C := 16) vc_len (by omega) h
 refine ⟨ad, c, h1, fun i x hx => ?_⟩
 obtain ⟨g, o, h3, h4⟩ := h2 i x hx
 exact ⟨g, o, h3, fun j u hu => h4 j u (by simpa using hu)⟩
def slt (x : Nat × Nat) : List Value := [.int .u8 x.1, .int .u64 x.2]
theorem pln_of {w : World} {v : Value} {l : List (Nat × Nat)} (hb : ∀ x ∈ l, x.1 < 256 ∧ x.2 < 18446744073709551616) (h : RowsAt w v l.length (l.flatMap slt)) : ∃ ad c, v = .slice ad l.length c ∧ (ad = none → c = 0) ∧ PlnAt w ad l := by
 obtain ⟨ad, c, h1, h0, h2⟩ := rows_get (f := slt) (C := 2) (fun _ => rfl) (by omega) h
 refine ⟨ad, c, h1, fun e => (h0 e).2, fun hl => ?_⟩
 obtain ⟨g, o, rfl, h4⟩ := h2 0 _ (List.getElem?_eq_getElem hl)
 refine ⟨g, o, rfl, cell_lt (h4 0 _ rfl), fun i a s hi => ?_⟩
 obtain ⟨g', o', he, h5⟩ := h2 i _ hi
 cases he
 have hm := hb _ (List.mem_of_getElem? hi)
 exact ⟨h5 0 _ rfl, h5 1 _ rfl, hm.1, hm.2⟩
/-- A row of a call's own, of configurations. -/
theorem cls_row {w : World} {v : Value} {l : List Cf} {n : Nat} (hn : l.length = n) (h : w.ownsRow 0 TCl 16 v n (fVC l)) : ∃ ad c, v = .slice ad n c ∧ ClsAt w ad l := by
 obtain ⟨ad, c, hv, h1, h2⟩ := row_src h
 refine ⟨ad, c, hv, fun i x hx => ?_⟩
 cases had : ad with
 | none =>
   have := (h1 had).1
   rw [List.eq_nil_of_length_eq_zero (by omega : l.length = 0)] at hx
   cases hx
 | some b =>
   rcases h.2 with ⟨hv', _⟩ | ⟨g, cap, cur, hv', _⟩
   · rw [hv] at hv'; injection hv' with e _ _; rw [had] at e; cases e
   · rw [hv] at hv'
     injection hv' with e _ _
     rw [had] at e
     injection e with e
     subst e
     refine ⟨g, 0, rfl, fun j u hu => ?_⟩
     have hj : j < 16 := by
      rcases Nat.lt_or_ge j 16 with h' | h'
      · exact h'
      · rw [Array.getElem?_eq_none (by simpa using h')] at hu; cases hu
     have := h2 _ had (i * 16 + j) u (by unfold fVC; rw [flatW_at (fun c => (VC c).toList) vc_len hx hj]; simpa using hu)
     rw [add_at] at this
     rw [Nat.add_assoc]
     exact this
/-- A packet. -/
theorem packet_any {w : World} {i : Nat} (hi : i < 4294967296) (a : Act) :
 Calls Tryz.prog 14 #[.int .i64 i, .agg (actA a)] w fun x w' => x = .returned (VP i i a.len) ∧ Upd Nowhere w w' := by
 have e0 : IntKind.u32.wrap (i : Int) = (i : Int) := by rw [IntKind.wrap_u32]; omega
 go_enter Tryz.func14, Tryz.ntmps14
 go_upto_region 1 with fail
 have hB : Blk ((w.alloc (.cells (actA a) TAc)).alloc (.cells zP TP)) (w.heap.size + 1) zP TP := Blk.new2 _ _ _ _
 have hA : Blk ((w.alloc (.cells (actA a) TAc)).alloc (.cells zP TP)) w.heap.size (actA a) TAc := (Blk.new _ _ _).alloc _
 have hU : Upd Nowhere w ((w.alloc (.cells (actA a) TAc)).alloc (.cells zP TP)) := ((Upd.refl _ _).alloc _).alloc _
 obtain ⟨r0, r1, r2, z0, z1, z2⟩ := cells3 hB
 have a3 : ((w.alloc (.cells (actA a) TAc)).alloc (.cells zP TP)).cell? ⟨w.heap.size, 3, none⟩ = some (.int .u64 a.len) := hA.cellAt rfl
 clear hA hB
 generalize (w.alloc (.cells (actA a) TAc)).alloc (.cells zP TP) = w1 at *
 go_wp2_with fail
 exact bodyPost_ret (v := VP i i a.len) (by simp [results, Tryz.results14, go_sem, r0, r1, r2]) rfl ⟨rfl, (by repeat (first | with_reducible exact hU | with_reducible refine Upd.drew ?_ | with_reducible refine Upd.setNew ?_ (Nat.le_succ _) _))⟩
/-- Is it too much? -/
theorem far_any {w : World} {ad ap al : Option Addr} {n cc m cp pace k cl : Nat} :
 Calls Tryz.prog 9 #[.agg #[.slice ad n cc, .slice ap m cp, .int .u64 pace], .slice al k cl] w fun x w' => x = .returned (.bool (decide (12 < n) || (decide (70 < m) || decide (150 < k)))) ∧ Upd Nowhere w w' := by
 have hU : Upd Nowhere w (w.alloc (.cells #[.slice ad n cc, .slice ap m cp, .int .u64 pace] TRc)) := (Upd.refl _ _).alloc _
 have hB : Blk (w.alloc (.cells #[.slice ad n cc, .slice ap m cp, .int .u64 pace] TRc)) w.heap.size #[.slice ad n cc, .slice ap m cp, .int .u64 pace] TRc := Blk.new _ _ _
 obtain ⟨k0, k1, -⟩ := cells3 hB
 clear hB
 by_cases h1 : 12 < n
 · have d1 : decide ((n : Int) > 12) = true := decide_eq_true (by omega)
   have d2 : decide (12 < n) = true := decide_eq_true h1
   have d3 : decide ((12 : Int) < (n : Int)) = true := decide_eq_true (by omega)
   clear h1
   rw [d2]
   go_enter Tryz.func9, Tryz.ntmps9
   go_wp2_with fail
   go_ret
   exact ⟨rfl, hU⟩
 · have d1 : decide ((n : Int) > 12) = false := decide_eq_false (by omega)
   have d2 : decide (12 < n) = false := decide_eq_false h1
   have d3 : decide ((12 : Int) < (n : Int)) = false := decide_eq_false (by omega)
   clear h1
   rw [d2]
   by_cases h1 : 70 < m
   · have e1 : decide ((m : Int) > 70) = true := decide_eq_true (by omega)
     have e2 : decide (70 < m) = true := decide_eq_true h1
     have e3 : decide ((70 : Int) < (m : Int)) = true := decide_eq_true (by omega)
     clear h1
     rw [e2]
     go_enter Tryz.func9, Tryz.ntmps9
     go_wp2_with fail
     go_ret
     exact ⟨rfl, hU⟩
   · have e1 : decide ((m : Int) > 70) = false := decide_eq_false (by omega)
     have e2 : decide (70 < m) = false := decide_eq_false h1
     have e3 : decide ((70 : Int) < (m : Int)) = false := decide_eq_false (by omega)
     clear h1
     rw [e2]
     obtain ⟨b, hb⟩ : ∃ b, decide (150 < k) = b := ⟨_, rfl⟩
     have f1 : decide ((k : Int) > 150) = b := by rw [← hb]; exact decide_eq_decide.2 (by omega)
     have f3 : decide ((150 : Int) < (k : Int)) = b := by rw [← hb]; exact decide_eq_decide.2 (by omega)
     rw [hb]
     go_enter Tryz.func9, Tryz.ntmps9
     go_wp2_with fail
     go_ret
     exact ⟨rfl, hU⟩
end Go.Proofs.YtdddfmdcjjbegaaGreat.Egs
namespace Go.Proofs.YtdddfmdcjjbegaaGreat.Egs
open Go.RowKit Go.Proofs BigFrame
open RingW (It KI zI ZI VI TE)
open First (Cf VC TCl)
set_option maxHeartbeats 4000000
set_option maxRecDepth 1000000
set_option linter.unusedSimpArgs false
theorem okE_new {cs : List Cf} {pl : List (Nat × Nat)} {pace c : Nat} {vc vp : Value} {Q : List (Nat × Cf × Cs)} (h : chkE cs pl pace = 0) (hpl : ∀ x ∈ pl, x.1 < 256 ∧ x.2 < 18446744073709551616) (hQ : Q.map (fun x => x.2) = cs.map (fun c => (c, s0 c))) :
 OkE ⟨vc, vp, pl, pace, 0, 0, Q⟩ c := by
 obtain ⟨h1, h2, h3, h4, h5, h6⟩ := chkE_ok h
 have hl : Q.length = cs.length := by have := congrArg List.length hQ; simpa using this
 refine ⟨hpl, ?_, h4, h5, Nat.zero_le _, Nat.zero_le _, by show 1 ≤ Q.length; omega, by show Q.length ≤ 8; omega, fun x hx => ?_⟩
 · rcases Nat.eq_zero_or_pos pl.length with h0 | h0
   · exact .inl (List.eq_nil_of_length_eq_zero h0)
   · exact .inr (h6 h0)
 · have hm : x.2 ∈ cs.map (fun c => (c, s0 c)) := by rw [← hQ]; exact List.mem_map.2 ⟨x, hx, rfl⟩
   obtain ⟨y, hy, he⟩ := List.mem_map.1 hm
   rw [← he]
   exact ⟨h1 y hy, s0_ok (h1 y hy) _ _⟩
theorem e_new {w0 w : World} {l : List Comp} {cs : List Cf} {ad ap : Option Addr} {cc cp pace : Nat} {pl : List (Nat × Nat)} (hM : Made w0 w l) (hC : ClsAt w ad cs) (hP : PlnAt w ap pl) (hn : ap = none → cp = 0) (h : chkE cs pl pace = 0) :
 Calls Tryz.prog 11 #[.agg #[.slice ad cs.length cc, .slice ap pl.length cp, .int .u64 pace]] w fun x w' =>
  ∃ e vc vp Q, x = .returned (.tuple #[.pointer (some ⟨e, 0, none⟩), .int .i64 0]) ∧ Made w0 w' (egC e ⟨vc, vp, pl, pace, 0, 0, Q⟩ :: l) ∧ Q.map (fun x => x.2) = cs.map (fun c => (c, s0 c)) := by
 refine (newE_ok hC hP hn h).mono ?_
 rintro x w' ⟨e, own, vc, vp, Q, rfl, h1, h2, h3, h4⟩
 exact ⟨e, vc, vp, Q, rfl, hM.more (C := egC e ⟨vc, vp, pl, pace, 0, 0, Q⟩) h1 h3 h4, h2⟩
theorem cls_new (w : World) (g : Nat) (c : Cf) (h : Blk w g (VC c) TCl) : ClsAt w (some ⟨g, 0, none⟩) [c] := fun i x hx => by
 cases i with
 | zero =>
   simp only [List.getElem?_cons_zero] at hx
   cases hx
   exact ⟨g, 0, rfl, fun j v hv => by simpa using h.cellAt hv⟩
 | succ i => simp at hx
theorem lives_any (w : World) : Calls Tryz.prog 10 #[] w fun x w' => x = .returned (.bool true) ∧ Upd Nowhere w w' := by
 go_enter Tryz.func10, Tryz.ntmps10
 go_wp2_with fail
 have hU : Upd Nowhere w ((w.alloc (.cells (VC cfL) TCl)).alloc (.cells #[.int .u8 1, .int .u64 9, .int .u8 0, .int .u64 1] Plan.TS)) := ((Upd.refl _ _).alloc _).alloc _
 have hC : ClsAt ((w.alloc (.cells (VC cfL) TCl)).alloc (.cells #[.int .u8 1, .int .u64 9, .int .u8 0, .int .u64 1] Plan.TS)) (some ⟨w.heap.size, 0, none⟩) [cfL] := cls_new _ _ _ ((Blk.new _ _ _).alloc _)
 have hB2 : Blk ((w.alloc (.cells (VC cfL) TCl)).alloc (.cells #[.int .u8 1, .int .u64 9, .int .u8 0, .int .u64 1] Plan.TS)) (w.heap.size + 1) #[.int .u8 1, .int .u64 9, .int .u8 0, .int .u64 1] Plan.TS := Blk.new2 _ _ _ _
 have hP : PlnAt ((w.alloc (.cells (VC cfL) TCl)).alloc (.cells #[.int .u8 1, .int .u64 9, .int .u8 0, .int .u64 1] Plan.TS)) (some ⟨w.heap.size + 1, 0, none⟩) plL := fun _ => ⟨_, 0, rfl, hB2.lt, fun i a s hi => by
  match i, hi with
  | 0, hi => cases hi; exact ⟨hB2.cellAt (i := 0) rfl, hB2.cellAt (i := 1) rfl, by omega, by omega⟩
  | 1, hi => cases hi; exact ⟨hB2.cellAt (i := 2) rfl, hB2.cellAt (i := 3) rfl, by omega, by omega⟩⟩
 have hch : chkE [cfL] plL 1 = 0 := by kernel_rfl
 refine (e_new (cs := [cfL]) (pl := plL) ((Made.start w).old hU) hC hP (fun h => by cases h) hch).mono ?_
 rintro x w3 ⟨e, vc, vp, Q, rfl, hM, hQ⟩
 have hOk : ∀ c, OkE ⟨vc, vp, plL, 1, 0, 0, Q⟩ c := fun c => okE_new hch (by intro x hx; simp [plL] at hx; rcases hx with rfl | rfl <;> omega) hQ
 obtain ⟨k, rfl⟩ : ∃ k, Q = [(k, cfL, s0 cfL)] := by
  match Q, hQ with
  | [(k, c, s)], hQ => simp at hQ; obtain ⟨rfl, rfl⟩ := hQ; exact ⟨k, rfl⟩
 have hM : Made w w3 (egC e (L0 vc vp k) :: []) := hM
 have hOk : ∀ c, OkE (L0 vc vp k) c := hOk
 have hO1 : ∀ c, OkE (L1 vc vp k) (c + 1) := fun c => pushE_ok (hOk c) (by show (0 : Nat) < _; omega) (by show (1 : Nat) < _; omega)
 have hO2 : ∀ c, OkE (L2 vc vp k) (c + 2) := fun c => pushE_ok (hO1 c) (by show (0 : Nat) < _; omega) (by show (2 : Nat) < _; omega)
 have hO3 : ∀ c, OkE (L3 vc vp k) (c + 2) := fun c => nextE_ok (hO2 c)
 have hO4 : ∀ c, OkE (L4 vc vp k) (c + 2) := fun c => tickE_ok (hO3 c)
 have hO5 : ∀ c, OkE (nextE (L4 vc vp k)).2 (c + 2) := fun c => nextE_ok (hO4 c)
 have H1 : Calls Tryz.prog 13 #[.pointer (some ⟨e, 0, none⟩), .int .i64 0, .int .u64 0, VP 0 1 9] w3 fun x w' => x = .returned (.int .i64 0) ∧ Made w w' (egC e (L1 vc vp k) :: []) := by
  have h := e_push hM (hOk 0) (by omega) 0 0 0 1 9
  rw [l_push1] at h
  exact h
 have HQ := Lib.hid (And.intro hO1 (And.intro hO2 (And.intro hO3 (And.intro hO4 hO5))))
 have H1 := Lib.hid H1
 clear hM hOk hQ hC hP hB2 hU hch hO1 hO2 hO3 hO4 hO5
 go_wp2_with fail
 refine (H1.out).mono ?_
 rintro x w4 ⟨rfl, hM4⟩
 have H2 : Hid (Calls Tryz.prog 13 #[.pointer (some ⟨e, 0, none⟩), .int .i64 0, .int .u64 0, VP 0 2 10] w4 fun x w' => x = .returned (.int .i64 0) ∧ Made w w' (egC e (L2 vc vp k) :: [])) := Lib.hid (by
  have h := e_push hM4 (HQ.out.1 0) (by omega) 0 0 0 2 10
  rw [l_push2] at h
  exact h)
 clear hM4 H1
 go_wp2_with fail
 refine (H2.out).mono ?_
 rintro x w5 ⟨rfl, hM5⟩
 have H3 : Hid (Calls Tryz.prog 15 #[.pointer (some ⟨e, 0, none⟩)] w5 fun x w' => x = .returned (.tuple #[.int .i64 0, VP 0 1 9, .int .i64 0]) ∧ Made w w' (egC e (L3 vc vp k) :: [])) := Lib.hid (by
  have h := e_next hM5 (HQ.out.2.1 0) (by omega)
  rw [l_next1] at h
  exact h)
 clear hM5 H2
 go_wp2_with fail
 refine (H3.out).mono ?_
 rintro x w6 ⟨rfl, hM6⟩
 go_upto_region 5 with fail
 have H7 := Lib.hid ((m_box hM6 #[.int .u32 0, .int .u32 1, .int .u64 9] TP).perm (List.Perm.swap _ _ _))
 clear hM6 H3
 generalize w6.alloc (.cells #[.int .u32 0, .int .u32 1, .int .u64 9] TP) = w7 at *
 generalize w6.heap.size = PB at *
 have H8 := Lib.hid (e_tick (t := 10) H7.out (HQ.out.2.2.1 0) (by omega))
 go_wp2_with fail
 refine (H8.out).mono ?_
 rintro x w8 ⟨rfl, hM8⟩
 have H9 : Hid (Calls Tryz.prog 15 #[.pointer (some ⟨e, 0, none⟩)] w8 fun x w' => x = .returned (.tuple #[.int .i64 0, VP 0 0 0, .int .i64 19]) ∧ Made w w' (egC e (nextE (L4 vc vp k)).2 :: blkC PB #[.int .u32 0, .int .u32 1, .int .u64 9] TP :: [])) := Lib.hid (by
  have hM8 : Made w w8 (egC e (L4 vc vp k) :: blkC PB #[.int .u32 0, .int .u32 1, .int .u64 9] TP :: []) := hM8
  have h := e_next hM8 (HQ.out.2.2.2.1 0) (by omega)
  rw [l_next2] at h
  exact h)
 clear hM8 H8 H7
 go_wp2_with fail
 refine (H9.out).mono ?_
 rintro x w9 ⟨rfl, hM9⟩
 go_upto_region 7 with fail
 have HA := Lib.hid (m_box hM9 #[.int .u32 0, .int .u32 0, .int .u64 0] TP)
 clear hM9 H9
 generalize w9.alloc (.cells #[.int .u32 0, .int .u32 0, .int .u64 0] TP) = wA at *
 generalize w9.heap.size = PC at *
 obtain ⟨p0, p1, p2, -⟩ := cells3 (mk_off (l1 := [_, _]) HA.out).1
 have HB : Hid (Calls Tryz.prog 20 #[.pointer (some ⟨e, 0, none⟩)] wA fun x w' => x = .returned (.int .u64 9) ∧ wA = w') := Lib.hid (by
  have h := e_busy (HA.out.perm (List.Perm.swap _ _ _)) (HQ.out.2.2.2.2 0)
  rw [l_busy] at h
  exact h)
 have HU := Lib.hid HA.out.upd
 clear HA
 go_wp2_with fail
 refine (HB.out).mono ?_
 rintro x wB ⟨rfl, rfl⟩
 go_wp2_with fail
 go_ret
 exact ⟨rfl, HU.out⟩
end Go.Proofs.YtdddfmdcjjbegaaGreat.Egs

