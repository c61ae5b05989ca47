/- R43, R43B, one behind the other. -/
import Derived.Test.YtdddfmdcjjbegaaGreatMrC
import Derived.Test.YtdddfmdcjjbegaaGreatMrA
import Derived.Test.YtdddfmdcjjbegaaGreatMrB
import Derived.Test.YtdddfmdcjjbegaaGreatMeP
import Derived.Test.YtdddfmdcjjbegaaGreatMeA
import Derived.Deep.LoopGhost
import Derived.Test.YtdddfmdcjjbegaaGreatMeTk
namespace Go.Proofs.YtdddfmdcjjbegaaGreat.R43
open Go.RowKit Go.Proofs BigFrame
open RingW (It)
open First (Cf VC)
open Egs (Cs cri crs crh TRk TRc TP)
open Aifo (RefIn)
set_option maxHeartbeats 1000000
set_option maxRecDepth 1000000
abbrev TEg : TypeId := 133
abbrev TSt : TypeId := 142
abbrev TPs : TypeId := 134
abbrev TU : TypeId := 24
/-- A class's gate. -/
def GateR (cf : Cf) (w : World) (gb gw : Nat) (win : List Int) (own : Nat → Prop) : Prop :=
 if cf.policy = 3 then ∃ wv, RefIn w gb cf.room.toNat cf.window.toNat gw cf.num cf.den win wv ∧ ∀ k, own k ↔ k = gb ∨ wv.ownBlock = some k
 else ∀ k, ¬ own k
theorem rising_lt {w : World} {v : Value} {rs : List Int} (h : Aifo.Rising w v rs) {k : Nat} (hk : v.ownBlock = some k) : k < w.heap.size := by
 rcases h with ⟨rfl, _⟩ | ⟨g, c, rfl, _, h2, _⟩
 · simp [Value.ownBlock] at hk
 · simp [Value.ownBlock] at hk; rw [← hk]; exact h2
theorem GateR.kept {cf : Cf} {w w' : World} {gb gw : Nat} {win : List Int} {own : Nat → Prop} (h : GateR cf w gb gw win own) {S : Nat → Prop} (hu : Upd S w w') (hS : ∀ k, own k → ¬ S k) : GateR cf w' gb gw win own := by
 unfold GateR at h ⊢
 split
 · rename_i e
   rw [if_pos e] at h
   obtain ⟨wv, h1, h2⟩ := h
   exact ⟨wv, h1.kept hu (hS _ ((h2 _).2 (.inl rfl))) (fun k hk => hS k ((h2 k).2 (.inr hk))), h2⟩
 · rename_i e; rw [if_neg e] at h; exact h
theorem GateR.lts {cf : Cf} {w : World} {gb gw : Nat} {win : List Int} {own : Nat → Prop} (h : GateR cf w gb gw win own) {k : Nat} (hk : own k) : k < w.heap.size := by
 unfold GateR at h
 split at h
 · obtain ⟨wv, h1, h2⟩ := h
   rcases (h2 k).1 hk with rfl | h3
   · exact h1.blk.lt
   · exact rising_lt h1.row h3
 · exact absurd hk (h k)
def gateR (cf : Cf) (gb gw : Nat) (win : List Int) : Comp := ⟨fun w o => GateR cf w gb gw win o, fun h hu hS => h.kept hu hS, fun h hk => h.lts hk⟩
/-- A state's cells. -/
abbrev SC (cf : Cf) (s : Cs) (lv : Value) (gb : Nat) : Array Value := #[lv, .int .u64 (s.mean : Nat), .int .u64 (s.cnt : Nat), .int .u64 (s.cF : Nat), .int .u64 (s.cN : Nat), .int .u64 (s.cK : Nat), .int .u64 (s.cL : Nat), .bool s.cD, .pointer (some ⟨gb, 0, none⟩), .int .i64 (cri cf), .int .i64 (crs cf), .int .i64 (crh cf), .int .i64 s.hv, .int .i64 (s.inn : Nat), .int .i64 (s.left : Nat), .int .i64 (s.drp : Nat)]
/-- What waits, by the reference. -/
def itR (lv : Value) (L : List (Nat × Int)) : Comp := rowW Ref09.TI 2 lv L.length (pcs L)
/-- A state at block b. -/
def StP (w : World) (own : Nat → Prop) (b : Nat) (cf : Cf) (s : Cs) (L : List (Nat × Int)) : Prop :=
 ∃ lv gb, Sep w [blkC b (SC cf s lv gb) TSt, itR lv L, gateR cf gb s.gw s.win] own
def stC (b : Nat) (cf : Cf) (s : Cs) (L : List (Nat × Int)) : Comp := ⟨fun w o => StP w o b cf s L, fun ⟨lv, gb, h⟩ hu hS => ⟨lv, gb, h.kp hu hS⟩, fun ⟨_, _, h⟩ hk => Sep.lt h hk⟩
/-- How it stands. -/
structure Rf where
 sv : Value
 pv : Value
 av : Value
 q : List (Nat × Cf × Cs × List (Nat × Int))
 P : List (Nat × Nat × Nat)
 A : List Nat
 now : Nat
 busy : Nat
def ptr2 (q : List (Nat × Cf × Cs × List (Nat × Int))) : List Value := q.map fun x => .pointer (some ⟨x.1, 0, none⟩)
def pks (l : List (Nat × Nat × Nat)) : List Value := l.flatMap fun x => [.int .u32 (x.1 : Nat), .int .u32 (x.2.1 : Nat), .int .u64 (x.2.2 : Nat)]
def n64 (l : List Nat) : List Value := l.map fun (x : Nat) => .int .u64 (x : Nat)
def sts (q : List (Nat × Cf × Cs × List (Nat × Int))) : List Comp := q.map fun x => stC x.1 x.2.1 x.2.2.1 x.2.2.2
abbrev RCl (cv pv : Value) (pace : Nat) (R : Rf) : Array Value := #[cv, pv, .int .u64 (pace : Nat), R.sv, R.pv, R.av, .int .u64 (R.now : Nat), .int .u64 (R.busy : Nat)]
def rws (R : Rf) : List Comp := [rowW TPs 1 R.sv R.q.length (ptr2 R.q), rowW TP 3 R.pv R.P.length (pks R.P), rowW TU 1 R.av R.A.length (n64 R.A)]
def RfP (w : World) (own : Nat → Prop) (m : Nat) (cv pv : Value) (pace : Nat) (R : Rf) : Prop := Sep w (blkC m (RCl cv pv pace R) TEg :: (rws R ++ sts R.q)) own
def rfC (m : Nat) (cv pv : Value) (pace : Nat) (R : Rf) : Comp := ⟨fun w o => RfP w o m cv pv pace R, fun h hu hS => Sep.kp hu h hS, fun h hk => Sep.lt h hk⟩
theorem ptr2_set {q : List (Nat × Cf × Cs × List (Nat × Int))} {i b : Nat} {cf : Cf} {s s' : Cs} {L L' : List (Nat × Int)} (h : q[i]? = some (b, cf, s, L)) : ptr2 (q.set i (b, cf, s', L')) = ptr2 q := by
 unfold ptr2
 rw [List.map_set]
 apply List.ext_getElem?
 intro j
 rw [List.getElem?_set]
 split
 · rename_i e
   subst e
   have hlt : i < q.length := by
    rcases Nat.lt_or_ge i q.length with h' | h'
    · exact h'
    · rw [List.getElem?_eq_none h'] at h; cases h
   rw [if_pos (by rw [List.length_map]; exact hlt), List.getElem?_map, h]
   rfl
 · rfl
section
variable {w w' : World} {own : Nat → Prop} {m pace : Nat} {cv pv : Value} {R : Rf}
/-- A state of it, and what becomes of all once it turned. -/
theorem RfP.st (h : RfP w own m cv pv pace R) {i b : Nat} {cf : Cf} {s : Cs} {L : List (Nat × Int)} (hi : R.q[i]? = some (b, cf, s, L)) :
 ∃ o, StP w o b cf s L ∧ ¬ o m ∧ (∀ q, o q → own q) ∧ own m ∧
  ∀ (w' : World) (o' : Nat → Prop) (s' : Cs) (L' : List (Nat × Int)), StP w' o' b cf s' L' → Fol w o w' o' → ∃ own', RfP w' own' m cv pv pace { R with q := R.q.set i (b, cf, s', L') } ∧ Fol w own w' own' := by
 have hc : (sts R.q)[i]? = some (stC b cf s L) := by unfold sts; rw [List.getElem?_map, hi]; rfl
 obtain ⟨oa, ob, ⟨hB2, hoa⟩, hb2, hb3, hb4⟩ := h
 obtain ⟨o5, hC5, hs5, hK5⟩ := Egs.Sep.at (l1 := rws R) hb2 hc
 refine ⟨o5, hC5, fun he => hb3 m ((hoa m).2 rfl) (hs5 m he), fun q hq => (hb4 q).2 (.inr (hs5 q hq)), (hb4 m).2 (.inl ((hoa m).2 rfl)), fun w' o' s' L' hP hF => ?_⟩
 obtain ⟨ob', h6, h7⟩ := hK5 w' o' (stC b cf s' L') hP hF
 have hlt : m < w.heap.size := Blk.lt hB2
 refine ⟨fun q => oa q ∨ ob' q, ⟨oa, ob', ⟨Blk.kept hB2 h7.upd (fun hk => hb3 m ((hoa m).2 rfl) hk), hoa⟩, ?_, fun q hq hq' => ?_, fun _ => Iff.rfl⟩, fun q hq => ?_, h7.upd.mono fun q _ hq => (hb4 q).2 (.inr hq)⟩
 · show Sep w' (rws { R with q := R.q.set i (b, cf, s', L') } ++ sts (R.q.set i (b, cf, s', L'))) ob'
   unfold rws
   rw [show sts (R.q.set i (b, cf, s', L')) = (sts R.q).set i (stC b cf s' L') by unfold sts; rw [List.map_set]]
   simp only [ptr2_set hi, List.length_set]
   exact h6
 · rw [(hoa q).1 hq] at hq'
   rcases h7.at_ m hq' with h8 | h8
   · exact hb3 m ((hoa m).2 rfl) h8
   · exact absurd hlt (Nat.not_lt.2 h8)
 · rcases hq with hq | hq
   · exact .inl ((hb4 q).2 (.inl hq))
   · exact (h7.at_ q hq).imp (fun h8 => (hb4 q).2 (.inr h8)) id
theorem pks_at : ∀ {l : List (Nat × Nat × Nat)} {i a b c : Nat}, l[i]? = some (a, b, c) → (pks l)[i * 3]? = some (.int .u32 (a : Nat)) ∧ (pks l)[i * 3 + 1]? = some (.int .u32 (b : Nat)) ∧ (pks l)[i * 3 + 2]? = some (.int .u64 (c : Nat))
 | [], i, a, b, c, h => by simp at h
 | x :: r, 0, a, b, c, h => by
   simp only [List.getElem?_cons_zero] at h
   cases h
   exact ⟨rfl, rfl, rfl⟩
 | x :: r, i + 1, a, b, c, h => by
   simp only [List.getElem?_cons_succ] at h
   obtain ⟨h1, h2, h3⟩ := pks_at h
   rw [show (i + 1) * 3 = i * 3 + 3 by omega]
   exact ⟨h1, h2, h3⟩
/-- Its own block, and its rows. -/
theorem RfP.blk (h : RfP w own m cv pv pace R) : own m ∧ Blk w m (RCl cv pv pace R) TEg ∧ (∃ ac cc, R.sv = .slice ac R.q.length cc) ∧ (∃ ap cp, R.pv = .slice ap R.P.length cp) ∧ (∃ aa ca, R.av = .slice aa R.A.length ca) ∧
 (∀ (i : Nat) x, R.q[i]? = some x → ∃ g c, R.sv = .slice (some ⟨g, 0, none⟩) R.q.length c ∧ w.cell? ⟨g, i, none⟩ = some (.pointer (some ⟨x.1, 0, none⟩))) ∧
 (∀ (i a b c : Nat), R.P[i]? = some (a, b, c) → ∃ g cc, R.pv = .slice (some ⟨g, 0, none⟩) R.P.length cc ∧ w.cell? ⟨g, i * 3, none⟩ = some (.int .u32 (a : Nat)) ∧ w.cell? ⟨g, i * 3 + 1, none⟩ = some (.int .u32 (b : Nat)) ∧ w.cell? ⟨g, i * 3 + 2, none⟩ = some (.int .u64 (c : Nat))) ∧
 (∀ (i a : Nat), R.A[i]? = some a → ∃ g cc, R.av = .slice (some ⟨g, 0, none⟩) R.A.length cc ∧ w.cell? ⟨g, i, none⟩ = some (.int .u64 (a : Nat))) := by
 obtain ⟨o1, o2, ⟨hB, ho1⟩, ⟨o3, o4, hr1, ⟨o5, o6, hr2, ⟨o7, o8, hr3, _⟩, _⟩, _⟩, _, h4⟩ := h
 refine ⟨(h4 m).2 (.inl ((ho1 m).2 rfl)), hB, row_form hr1.1, row_form hr2.1, row_form hr3.1, fun i x hx => ?_, fun i a b c hx => ?_, fun i a hx => ?_⟩
 · have hlt : i < R.q.length := by
    rcases Nat.lt_or_ge i R.q.length with h' | h'
    · exact h'
    · rw [List.getElem?_eq_none h'] at hx; cases hx
   obtain ⟨g, c, he⟩ := rowW_arr hr1 (by omega)
   rw [he] at hr1
   exact ⟨g, c, he, (rowW_cell hr1 (k := i) (by unfold ptr2; rw [List.getElem?_map, hx]; rfl)).1⟩
 · have hlt : i < R.P.length := by
    rcases Nat.lt_or_ge i R.P.length with h' | h'
    · exact h'
    · rw [List.getElem?_eq_none h'] at hx; cases hx
   obtain ⟨g, cc, he⟩ := rowW_arr hr2 (by omega)
   rw [he] at hr2
   obtain ⟨e1, e2, e3⟩ := pks_at hx
   exact ⟨g, cc, he, (rowW_cell hr2 e1).1, (rowW_cell hr2 e2).1, (rowW_cell hr2 e3).1⟩
 · have hlt : i < R.A.length := by
    rcases Nat.lt_or_ge i R.A.length with h' | h'
    · exact h'
    · rw [List.getElem?_eq_none h'] at hx; cases hx
   obtain ⟨g, cc, he⟩ := rowW_arr hr3 (by omega)
   rw [he] at hr3
   exact ⟨g, cc, he, (rowW_cell hr3 (k := i) (by unfold n64; rw [List.getElem?_map, hx]; rfl)).1⟩
end
/-- A state's parts. -/
theorem StP.blk {w : World} {o : Nat → Prop} {b : Nat} {cf : Cf} {s : Cs} {L : List (Nat × Int)} (h : StP w o b cf s L) : o b ∧ ∃ lv gb, Blk w b (SC cf s lv gb) TSt ∧ PRow Ref09.TI 0 w lv L := by
 obtain ⟨lv, gb, o1, o2, ⟨hB, h2⟩, ⟨o3, o4, hR, _⟩, _, h4⟩ := h
 exact ⟨(h4 b).2 (.inl ((h2 b).2 rfl)), lv, gb, hB, hR.1⟩
/-- What the reference has, and what the egress has. -/
structure Cor (E : Egs.Eg) (R : Rf) : Prop where
 now : R.now = E.now
 busy : R.busy = E.busy
 len : R.q.length = E.q.length
 q : ∀ (i k : Nat) (cf : Cf) (s : Cs), E.q[i]? = some (k, cf, s) → ∃ b L, R.q[i]? = some (b, cf, s, L) ∧ L.length = s.l.length ∧
  ∀ (t : Nat) (r : Nat) (x : It), s.l[t]? = some (r, x) → ∃ X : Nat, L[t]? = some (if Egs.wst cf = true then r else 0, (X : Int)) ∧ R.P[X]? = some (x.1, x.2.1, x.2.2.1) ∧ R.A[X]? = some x.2.2.2.1
 pa : R.P.length = R.A.length
end Go.Proofs.YtdddfmdcjjbegaaGreat.R43
namespace Go.Proofs.YtdddfmdcjjbegaaGreat.R43
open Go.RowKit Go.Proofs BigFrame
open RingW (It)
open First (Cf VC)
open Egs (Cs Eg OkE OkS OkF cri crs crh TRk TRc TP tks goesB opens ClsAt PlnAt)
open Aifo (RefIn)
set_option maxHeartbeats 40000000
set_option maxRecDepth 1000000
set_option linter.unusedSimpArgs false
/-- Bytes of the first of a list. -/
def bt (l : List (Nat × It)) (t : Nat) : Nat := ((l.take t).map (fun a => a.2.2.2.1)).sum
theorem bt_step {l : List (Nat × It)} {t : Nat} {a : Nat × It} (h : l[t]? = some a) : bt l (t + 1) = bt l t + a.2.2.2.1 := by
 unfold bt
 rw [List.take_add_one, h]
 simp
theorem bt_all (l : List (Nat × It)) : bt l l.length = (l.map (fun a => a.2.2.2.1)).sum := by unfold bt; rw [List.take_length]
theorem bt_le (l : List (Nat × It)) (t : Nat) : bt l t ≤ (l.map (fun a => a.2.2.2.1)).sum := by
 have h : (l.map (fun a => a.2.2.2.1)).sum = bt l t + ((l.drop t).map (fun a => a.2.2.2.1)).sum := by
  unfold bt
  conv => lhs; rw [← List.take_append_drop t l]
  rw [List.map_append, List.sum_append]
 omega
section
variable {w : World} {own : Nat → Prop} {m pace c i k : Nat} {cv pv : Value} {R : Rf} {E : Eg} {cf : Cf} {s : Cs}
theorem bytes_any (h : RfP w own m cv pv pace R) (hc : Cor E R) (hE : OkE E c) (hx : E.q[i]? = some (k, cf, s)) :
 Calls Tryz.prog 53 #[.pointer (some ⟨m, 0, none⟩), .int .i64 i] w fun x w' => x = .returned (.int .u64 (s.bys : Nat)) ∧ Upd Nowhere w w' := by
 obtain ⟨hf, hs⟩ := hE.q _ (List.mem_of_getElem? hx)
 dsimp only at hf hs
 obtain ⟨b, L, hq, hLl, hL⟩ := hc.q i k cf s hx
 obtain ⟨o, hSt, _⟩ := h.st hq
 obtain ⟨_, lv, gb, hB, hPR⟩ := hSt.blk
 obtain ⟨_, hM, _, ⟨ap, cp, hpv⟩, _, hS, hP, _⟩ := h.blk
 obtain ⟨gs, css, hsv, hcell⟩ := hS i _ hq
 obtain ⟨al, cl, rfl⟩ := hPR.form
 have hb2 := hs.by2 hf
 have hlen := hs.len
 have hr2 := hf.r2
 have k3 : w.cell? ⟨m, 3, none⟩ = some R.sv := hM.cellAt rfl
 have k4 : w.cell? ⟨m, 4, none⟩ = some R.pv := hM.cellAt rfl
 have kb : w.cell? ⟨b, 0, none⟩ = some (.slice al L.length cl) := hB.cellAt rfl
 obtain ⟨N, hN⟩ : ∃ N, R.q.length = N := ⟨_, rfl⟩
 obtain ⟨n, hn⟩ : ∃ n, L.length = n := ⟨_, rfl⟩
 obtain ⟨pn, hpn⟩ : ∃ pn, R.P.length = pn := ⟨_, rfl⟩
 have hiN : i < N := by
  rcases Nat.lt_or_ge i N with h' | h'
  · exact h'
  · rw [List.getElem?_eq_none (by rw [hN]; exact h')] at hq; cases hq
 rw [hsv, hN] at k3
 rw [hpv, hpn] at k4
 rw [hn] at kb
 have HPR := Lib.hid hPR
 have HL := Lib.hid hL
 have HPP : Hid (∀ (X a b' c' : Nat), R.P[X]? = some (a, b', c') → X < pn ∧ ∃ g, ap = some ⟨g, 0, none⟩ ∧ w.cell? ⟨g, X * 3 + 2, none⟩ = some (.int .u64 (c' : Nat))) := Lib.hid (fun X a b' c' hX => by
  obtain ⟨g, cc, e1, _, _, e2⟩ := hP X a b' c' hX
  rw [hpv] at e1
  injection e1 with e1 _ _
  refine ⟨?_, g, e1, e2⟩
  rcases Nat.lt_or_ge X pn with h' | h'
  · exact h'
  · rw [List.getElem?_eq_none (by rw [hpn]; exact h')] at hX; cases hX)
 have HN := Lib.hid hn
 have HLL := Lib.hid (show s.l.length = n by omega)
 have HBY := Lib.hid hs.by1
 have HB2 := Lib.hid hb2
 obtain ⟨bys, hby⟩ : ∃ y, s.bys = y := ⟨_, rfl⟩
 have HBS := Lib.hid hby
 rw [hby]
 have hn9 : n ≤ 4096 := by omega
 have hI : (i : Int) < N := by omega
 have H4 : Hid (∀ u, Upd Nowhere w u → u.cell? ⟨m, 4, none⟩ = some (.slice ap pn cp)) := Lib.hid (fun u hu => cell_old hu k4)
 clear h hc hE hx hf hs hq hSt hB hM hP hS hsv hpv hPR hL hb2 hlen hr2 hn hby hLl hN hpn hiN k4
 go_enter Tryz.func53, Tryz.ntmps53
 go_upto_region 4 with fail
 clear k3 kb hcell
 go_loopg [5, 7] (n + 1) (fun gk v5 v7 wr => ∃ (t y : Nat), n - t < gk ∧ t ≤ n ∧ v7 = .int .i64 t ∧ v5 = .int .u64 y ∧ Upd Nowhere w wr ∧ Hid (bt s.l t = y))
 case atStart => exact ⟨0, 0, by omega, Nat.zero_le _, rfl, rfl, Upd.refl _ _, Lib.hid (by unfold bt; simp)⟩
 case round =>
  obtain ⟨t, y, hgk, htn, rfl, rfl, hu, HT⟩ := hrel
  obtain ⟨wB, rfl⟩ : ∃ x, x = wr := ⟨_, rfl⟩
  have HGK := Lib.hid hgk
  have HU := Lib.hid hu
  clear hgk hu
  rcases Nat.lt_or_ge t n with hlt | hge
  · obtain ⟨⟨r, ⟨y0, y1, y2, y3, y4⟩⟩, ha⟩ : ∃ x, s.l[t]? = some x := ⟨s.l[t]'(by rw [HLL.out]; exact hlt), by simp⟩
    obtain ⟨X, e1, e2, _⟩ := HL.out t r _ ha
    obtain ⟨gl, cc, he, _, _, c1⟩ := HPR.out.cell e1
    injection he with he1 he2 he3
    subst he1
    obtain ⟨hXp, gp, rfl, c2⟩ := HPP.out X _ _ _ e2
    have hI2 : (t : Int) < n := by omega
    have dT : decide (t < n) = true := decide_eq_true hlt
    have hX2 : (X : Int) < pn := by omega
    have hst := bt_step ha
    obtain ⟨y', hy'⟩ : ∃ y', y + y2 = y' := ⟨_, rfl⟩
    rw [HT.out] at hst
    dsimp only at hst c2
    rw [hy'] at hst
    have hle := bt_le s.l (t + 1)
    have e5 : IntKind.u64.wrap ((y : Int) + (y2 : Int)) = (y' : Int) := by
     rw [IntKind.wrap_u64]
     have h1 := HBY.out
     have h2 := HB2.out
     omega
    have k1 := cell_old HU.out c1
    have k2 := cell_old HU.out c2
    have k4 := H4.out _ HU.out
    have HT2 := Lib.hid hst
    clear ha e1 e2 he2 he3 c1 c2 hst hle hy' hXp
    go_upto_region 6 with fail
    refine wp_region_held_drew (S := fun w' => w'.cell? ⟨m, 4, none⟩ = some (.slice (some ⟨gp, 0, none⟩) pn cp) ∧ w'.cell? ⟨gl, t * 2 + 1, none⟩ = some (.int .i64 (X : Nat)) ∧ w'.cell? ⟨gp, X * 3 + 2, none⟩ = some (.int .u64 (y2 : Nat))) (by kernel_rfl) ⟨k4, k1, k2⟩ (fun hHeld => ?_)
    refine tkq 0 ?_
    refine tkq 1 ?_
    refine tkq 2 ?_
    refine tkq 3 ?_
    refine tkq 4 ?_
    refine tkq 5 ?_
    refine tkq 6 ?_
    refine tkq 7 ?_
    refine tkq 8 ?_
    refine tkq 9 ?_
    refine tkq 10 ?_
    refine tkq 11 ?_
    refine tkq 12 ?_
    refine tkq 13 ?_
    refine tkq 14 ?_
    refine wpAnyH_done (by kernel_rfl) ?_ _
    clear k1 k2 k4 hHeld
    go_wp2_with fail
    go_roundg (n - t)
    case rel => exact ⟨t + 1, y', by omega, by omega, by first | rfl | go_num, rfl, HU.out.drew, HT2⟩
    case measure => have := HGK.out; omega
  · obtain rfl : t = n := by omega
    have dT : decide ((t : Int) < t) = false := by simp
    obtain rfl : bys = y := by rw [← HBS.out, HBY.out, ← HT.out, ← bt_all, HLL.out]
    go_wp2_with fail
    go_ret
    exact ⟨rfl, HU.out⟩
theorem ropen_any {ad ap : Option Addr} {n cc cp : Nat} {pl : List (Nat × Nat)} (h : RfP w own m (.slice ad n cc) (.slice ap pl.length cp) pace R) (hP : PlnAt w ap pl) (hok : pl = [] ∨ Plan.ok pl = true) (hi : i < 8) (hnow : R.now ≤ 18446744073709551615) {t : Nat} (ht : 1 ≤ t) :
 Calls Tryz.prog 91 #[.pointer (some ⟨m, 0, none⟩), .int .i64 i, .int .u64 t] w fun x w' => x = .returned (.bool (opens pl i R.now t)) ∧ Upd Nowhere w w' := by
 obtain ⟨_, hM, -⟩ := h.blk
 have k1 : w.cell? ⟨m, 1, none⟩ = some (.slice ap pl.length cp) := hM.cellAt rfl
 have k6 : w.cell? ⟨m, 6, none⟩ = some (.int .u64 (R.now : Nat)) := hM.cellAt rfl
 obtain ⟨now, hnw⟩ : ∃ now, R.now = now := ⟨_, rfl⟩
 rw [hnw] at k6 hnow ⊢
 by_cases h0 : pl.length = 0
 · have e : opens pl i now t = true := by unfold opens; rw [if_pos h0]
   rw [e]
   rw [h0] at k1
   clear h hM hP hok e h0 hnw
   go_enter Tryz.func91, Tryz.ntmps91
   go_wp2_with fail
   go_ret
   exact ⟨rfl, Upd.refl _ _⟩
 · have hok' : Plan.ok pl = true := hok.resolve_left (fun h => h0 (by rw [h]; rfl))
   obtain ⟨g, o, rfl, hg, hA⟩ := hP (by omega)
   have HAL := Lib.hid (Ref22.always_any (c := cp) (k := i) hA hok' hi)
   have HST := fun (hall : pl.all (Plan.opn i) = false) u hu => Lib.hid (Ref22.stays_any (c := cp) (hA.old (w' := u) hu) hok' hi hnow hall)
   have e : opens pl i now t = if (Plan.stn pl i now).2 then decide (0 < (Plan.stn pl i now).1) && decide (t ≤ (Plan.stn pl i now).1) else true := by unfold opens; rw [if_neg h0]
   obtain ⟨n', hn'⟩ : ∃ n', pl.length = n' := ⟨_, rfl⟩
   rw [hn'] at HAL k1 h0
   simp only [hn'] at HST
   have d0 : ((n' : Int) == 0) = false := by simp; omega
   cases hall : pl.all (Plan.opn i) with
   | true =>
     rw [hall] at HAL
     have e2 : opens pl i now t = true := by rw [e]; unfold Plan.stn; rw [hall]; rfl
     rw [e2]
     clear h hM hP hok hok' hA e e2 h0 hn' hall HST hnw hg
     go_enter Tryz.func91, Tryz.ntmps91
     go_wp2_with fail
     refine (HAL.out).mono ?_
     rintro x w' ⟨rfl, rfl⟩
     go_wp2_with fail
     go_ret
     exact ⟨rfl, Upd.refl _ _⟩
   | false =>
     rw [hall] at HAL
     have HS := HST hall
     have hs2 : (Plan.stn pl i now).2 = true := by unfold Plan.stn; rw [hall]; rfl
     obtain ⟨N, hNs⟩ : ∃ N, (Plan.stn pl i now).1 = N := ⟨_, rfl⟩
     rw [hs2, hNs] at e
     simp only [hNs] at HS
     obtain ⟨bb, hbb⟩ : ∃ b, decide (t ≤ N) = b := ⟨_, rfl⟩
     have e2 : opens pl i now t = bb := by
      rw [e, ← hbb]
      by_cases h9 : t ≤ N
      · simp [h9]; omega
      · simp [h9]
     rw [e2]
     have f1 : decide ((N : Int) ≥ (t : Int)) = bb := by rw [← hbb]; exact decide_eq_decide.2 (by omega)
     have f2 : decide ((t : Int) ≤ (N : Int)) = bb := by rw [← hbb]; exact decide_eq_decide.2 (by omega)
     clear h hM hP hok hok' hA e e2 h0 hn' hall HST hs2 hNs hnw hg
     go_enter Tryz.func91, Tryz.ntmps91
     go_wp2_with fail
     refine (HAL.out).mono ?_
     rintro x w' ⟨rfl, rfl⟩
     go_upto_region 3 with fail
     refine wp_region_held_drew (S := fun w' => w'.cell? ⟨m, 1, none⟩ = some (.slice (some ⟨g, o, none⟩) n' cp) ∧ w'.cell? ⟨m, 6, none⟩ = some (.int .u64 (now : Nat))) (by kernel_rfl) ⟨k1, k6⟩ (fun hHeld => ?_)
     refine tkq 0 ?_
     refine tkq 1 ?_
     refine tkq 2 ?_
     refine tkq 3 ?_
     refine tkq 4 ?_
     refine tkq 5 ?_
     refine tkq 6 ?_
     refine tkq 7 ?_
     refine tkq 8 ?_
     refine tkq 9 ?_
     refine tkq 11 ?_
     refine rdq 10 fun K9 hK => ?_
     go_simp
     refine (HS _ ((Upd.refl _ _).drew)).out.mono ?_
     rintro x w3 ⟨rfl, rfl⟩
     refine hK.out _ _ (by (try dsimp only); exact hHeld) (fun hHeld => ?_)
     clear hK K9
     refine tkq 12 ?_
     refine tkq 13 ?_
     refine wpAnyH_done (by kernel_rfl) ?_ _
     go_wp2_with fail
     go_ret
     exact ⟨rfl, (Upd.refl _ _).drew⟩
theorem rgoes_any {ad ap : Option Addr} {n cc cp : Nat} {cs : List Cf} (h : RfP w own m (.slice ad n cc) (.slice ap E.pl.length cp) E.pace R) (hC : ClsAt w ad cs) (hn : cs.length = n) (hcs : cs[i]? = some cf) (hP : PlnAt w ap E.pl) (hc : Cor E R) (hE : OkE E c) (hx : E.q[i]? = some (k, cf, s)) :
 Calls Tryz.prog 57 #[.pointer (some ⟨m, 0, none⟩), .int .i64 i] w fun x w' => x = .returned (.bool (goesB E.pl E.pace E.now i cf s)) ∧ Upd Nowhere w w' := by
 obtain ⟨hf, hs⟩ := hE.q _ (List.mem_of_getElem? hx)
 dsimp only at hf hs
 obtain ⟨b, L, hq, hLl, hL⟩ := hc.q i k cf s hx
 obtain ⟨o, hSt, _⟩ := h.st hq
 obtain ⟨_, lv, gb, hB, hPR⟩ := hSt.blk
 obtain ⟨_, hM, _, ⟨pa, pc, hpv⟩, _, hS, hPk, _⟩ := h.blk
 obtain ⟨gs, css, hsv, hcell⟩ := hS i _ hq
 obtain ⟨al, cl, rfl⟩ := hPR.form
 have hi8 : i < 8 := by
  have := hE.n2
  rcases Nat.lt_or_ge i E.q.length with h' | h'
  · omega
  · rw [List.getElem?_eq_none h'] at hx; cases hx
 have hin : i < n := by
  rcases Nat.lt_or_ge i n with h' | h'
  · exact h'
  · rw [List.getElem?_eq_none (by rw [hn]; exact h')] at hcs; cases hcs
 have hiN : i < R.q.length := by
  rcases Nat.lt_or_ge i R.q.length with h' | h'
  · exact h'
  · rw [List.getElem?_eq_none h'] at hq; cases hq
 have k0 : w.cell? ⟨m, 0, none⟩ = some (.slice ad n cc) := hM.cellAt rfl
 have k2 : w.cell? ⟨m, 2, none⟩ = some (.int .u64 (E.pace : Nat)) := hM.cellAt rfl
 have k3 : w.cell? ⟨m, 3, none⟩ = some R.sv := hM.cellAt rfl
 have k4 : w.cell? ⟨m, 4, none⟩ = some R.pv := hM.cellAt rfl
 have kb : w.cell? ⟨b, 0, none⟩ = some (.slice al L.length cl) := hB.cellAt rfl
 have kh : w.cell? ⟨b, 12, none⟩ = some (.int .i64 s.hv) := hB.cellAt rfl
 obtain ⟨g, o', rfl, -, -, m2, -⟩ := hC.cells hcs
 obtain ⟨N, hN⟩ : ∃ N, R.q.length = N := ⟨_, rfl⟩
 rw [hN] at hsv hiN
 rw [hsv] at k3
 have hI : (i : Int) < N := by omega
 have hIn : (i : Int) < n := by omega
 cases hl : s.l with
 | nil =>
   have hL0 : L.length = 0 := by rw [hLl, hl]; rfl
   have e : goesB E.pl E.pace E.now i cf s = false := by unfold goesB; rw [hl]
   rw [e]
   rw [hL0] at kb
   clear h hC hP hc hE hx hf hs hq hSt hB hPR hM hS hPk hL hLl hl hL0 e hpv k4 m2 kh hiN hN hsv hn hcs
   go_enter Tryz.func57, Tryz.ntmps57
   go_wp2_with fail
   go_ret
   exact ⟨rfl, Upd.refl _ _⟩
 | cons a t =>
   obtain ⟨r, ⟨y0, y1, y2, y3, y4⟩⟩ := a
   have hit := hs.its (r, (y0, y1, y2, y3, y4)) (by rw [hl]; exact List.mem_cons_self ..)
   dsimp only at hit
   obtain ⟨X, e1, e2, _⟩ := hL 0 r (y0, y1, y2, y3, y4) (by rw [hl]; rfl)
   dsimp only at e2
   obtain ⟨gl, cc2, he, _, _, c1⟩ := hPR.cell e1
   injection he with he1 he2 he3
   subst he1
   obtain ⟨gp, pc2, hpv2, _, _, c2⟩ := hPk X _ _ _ e2
   rw [hpv2] at k4
   have hXl : X < R.P.length := by
    rcases Nat.lt_or_ge X R.P.length with h' | h'
    · exact h'
    · rw [List.getElem?_eq_none h'] at e2; cases e2
   obtain ⟨pn, hpn⟩ : ∃ pn, R.P.length = pn := ⟨_, rfl⟩
   rw [hpn] at k4 hXl
   have hX2 : (X : Int) < pn := by omega
   have hLp : 0 < L.length := by rw [hLl, hl, List.length_cons]; omega
   obtain ⟨ln, hln⟩ : ∃ ln, L.length = ln := ⟨_, rfl⟩
   rw [hln] at kb hLp
   have hln0 : (0 : Int) < ln := by omega
   have d0 : ((ln : Int) == 0) = false := by simp; omega
   rw [show 0 * 2 + 1 = 1 from rfl] at c1
   have hgo : goesB E.pl E.pace E.now i cf s = (opens E.pl i E.now (tks E.pace y2) && (!cf.credit || decide (0 ≤ s.hv))) := by unfold goesB; rw [hl]
   obtain ⟨cr, hcr⟩ : ∃ cr, cf.credit = cr := ⟨_, rfl⟩
   obtain ⟨hv, hhv⟩ : ∃ hv, s.hv = hv := ⟨_, rfl⟩
   rw [hcr, hhv] at hgo
   rw [hcr] at m2
   rw [hhv] at kh
   have htk1 : 1 ≤ tks E.pace y2 := by
    unfold tks
    have h1 := hE.pc1
    have : 1 * 1 ≤ y2 * E.pace := Nat.mul_le_mul hit.1 h1
    omega
   have HOP := fun u (hu : Upd Nowhere w u) => Lib.hid (ropen_any ((rfC m _ _ E.pace R).kp h hu (fun _ _ h => h)) (hP.old hu) hE.pl2 hi8 (by rw [hc.now]; exact hE.now) htk1)
   rw [hc.now] at HOP
   have HMUL := fun u => Lib.hid (Sat.ref_mul y2 E.pace (by omega) (by have := hE.pc2; omega) u)
   rw [show min (y2 * E.pace) 18446744073709551615 = tks E.pace y2 from rfl] at HMUL
   obtain ⟨tk, htk⟩ : ∃ tk, tks E.pace y2 = tk := ⟨_, rfl⟩
   obtain ⟨ob, hob⟩ : ∃ ob, opens E.pl i E.now tk = ob := ⟨_, rfl⟩
   rw [htk] at HOP HMUL hgo
   rw [hob] at HOP hgo
   rw [hgo]
   clear h hC hP hc hE hx hf hs hq hSt hB hPR hM hS hPk hL hLl hl hpv hpv2 hgo hit e1 e2 he2 he3 hXl hpn hln hcr hhv htk1 htk hob hiN hN hsv hn hcs
   by_cases hneg : cr = true ∧ hv < 0
   · obtain ⟨rfl, hv0⟩ := hneg
     have d1 : decide (hv < 0) = true := decide_eq_true hv0
     have d2 : decide (0 ≤ hv) = false := decide_eq_false (by omega)
     have e9 : (ob && (!true || decide (0 ≤ hv))) = false := by rw [d2]; cases ob <;> rfl
     rw [e9]
     clear e9 d2 hv0 c1 c2 k4 k2 HOP HMUL
     go_enter Tryz.func57, Tryz.ntmps57
     go_wp2_with fail
     go_ret
     exact ⟨rfl, Upd.refl _ _⟩
   · have e9 : (ob && (!cr || decide (0 ≤ hv))) = ob := by
      cases cr with
      | false => simp
      | true => rw [decide_eq_true (show 0 ≤ hv by simp at hneg; omega)]; simp
     rw [e9]
     have HN := Lib.hid hneg
     clear e9 hneg
     go_enter Tryz.func57, Tryz.ntmps57
     go_upto_region 2 with fail
     go_cut [37] (fun v37 wc => v37 = .bool false ∧ w = wc)
     case first =>
      cases cr with
      | false =>
        go_wp2_with fail
        go_meet
        exact ⟨rfl, rfl⟩
      | true =>
        have d1 : decide (hv < 0) = false := decide_eq_false (fun h9 => HN.out ⟨rfl, h9⟩)
        go_wp2_with fail
        go_meet
        exact ⟨rfl, rfl⟩
     case rest =>
      obtain ⟨rfl, rfl⟩ := hcut
      go_upto_region 4 with fail
      refine wp_region_held_drew (S := fun w' => w'.cell? ⟨m, 4, none⟩ = some (.slice (some ⟨gp, 0, none⟩) pn pc2) ∧ w'.cell? ⟨b, 0, none⟩ = some (.slice (some ⟨gl, 0, none⟩) ln cl) ∧ w'.cell? ⟨gl, 1, none⟩ = some (.int .i64 (X : Nat)) ∧ w'.cell? ⟨gp, X * 3 + 2, none⟩ = some (.int .u64 (y2 : Nat)) ∧ w'.cell? ⟨m, 2, none⟩ = some (.int .u64 (E.pace : Nat)) ∧ w'.cell? ⟨m, 0, none⟩ = some (.slice (some ⟨g, o', none⟩) n cc)) (by kernel_rfl) (Egs.six_old ⟨k4, kb, c1, c2, k2, k0⟩ ((Upd.refl _ _).drew)) (fun hHeld => ?_)
      refine tkq 0 ?_
      refine tkq 1 ?_
      refine tkq 2 ?_
      refine tkq 3 ?_
      refine tkq 4 ?_
      refine tkq 5 ?_
      refine tkq 6 ?_
      refine tkq 7 ?_
      refine tkq 8 ?_
      refine tkq 9 ?_
      refine tkq 10 ?_
      refine tkq 11 ?_
      refine tkq 12 ?_
      refine tkq 13 ?_
      refine tkq 14 ?_
      refine tkq 15 ?_
      refine tkq 16 ?_
      refine tkq 17 ?_
      refine tkq 18 ?_
      refine tkq 19 ?_
      refine tkq 20 ?_
      refine rdq 21 fun K9 hK => ?_
      go_simp
      refine (HMUL _).out.mono ?_
      rintro x w3 ⟨rfl, u3⟩
      refine hK.out _ _ (by (try dsimp only); exact Egs.six_old hHeld u3) (fun hHeld => ?_)
      clear hK K9
      have HU3 := Lib.hid (((Upd.refl Nowhere w).drew).trans u3 (fun _ _ h => h))
      clear u3
      refine rdq 22 fun K9 hK => ?_
      go_simp
      refine (HOP _ HU3.out).out.mono ?_
      rintro x w4 ⟨rfl, u4⟩
      refine hK.out _ _ (by (try dsimp only); exact Egs.six_old hHeld u4) (fun hHeld => ?_)
      clear hK K9
      refine tkq 23 ?_
      refine wpAnyH_done (by kernel_rfl) ?_ _
      go_wp2_with fail
      go_ret
      exact ⟨rfl, HU3.out.trans u4 (fun _ _ h => h)⟩
end
end Go.Proofs.YtdddfmdcjjbegaaGreat.R43

