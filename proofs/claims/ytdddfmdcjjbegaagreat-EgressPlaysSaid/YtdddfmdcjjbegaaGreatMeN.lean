/- EgN, EgN1, EgN2, Slc, one behind the other. -/
import Derived.Test.YtdddfmdcjjbegaaGreatMeC2
import Derived.Test.YtdddfmdcjjbegaaGreatMeA
import Derived.Deep.RegionLaw
import Derived.Test.YtdddfmdcjjbegaaGreatMeC3
import Derived.Test.YtdddfmdcjjbegaaGreatMeEg
namespace Go.Proofs.YtdddfmdcjjbegaaGreat.Egs
open Go.RowKit Go.Proofs BigFrame
open RingW (It KI zI ZI VI TE)
open First (Cf VC TCl)
set_option maxHeartbeats 4000000
set_option maxRecDepth 1000000
set_option linter.unusedSimpArgs false
/-- A class as it is at first. -/
def s0 (_cf : Cf) : Cs := ⟨[], 0, 0, 0, 0, 0, 0, 0, false, 0, [], 0, 0, 0, 0⟩
theorem s0_ok {cf : Cf} (h : OkF cf) (now c : Nat) : OkS cf (s0 cf) now c :=
 ⟨Nat.zero_le _, rfl, (fun a ha => nomatch ha), by show (0 : Nat) ≤ _; omega, by show (0 : Nat) ≤ _; omega, by show (0 : Nat) ≤ _; omega, by show (0 : Nat) ≤ _; omega, by show (0 : Nat) ≤ _; omega, fun _ => rfl, fun hc => h.cr hc, fun _ => rfl, Nat.zero_le _, rfl⟩
/-- The cells of a class at first, before its gate and its credit. -/
abbrev K0 (cf : Cf) (v gv : Value) (a b c : Int) : Array Value := #[.int .i64 cf.room, .int .i64 cf.policy, .bool cf.credit, .int .i64 cf.idle, .int .i64 cf.send, .int .i64 cf.high, .int .u64 (cf.el : Nat), .int .u64 (cf.eh : Nat), .int .u64 (cf.em : Nat), .int .i64 cf.es, .int .u64 (cf.lt : Nat), .int .u64 (cf.li : Nat), .int .u64 (cf.lm : Nat), .int .i64 cf.window, .int .u64 (cf.num : Nat), .int .u64 (cf.den : Nat),
 v, .int .u64 0, .int .u64 0, .int .u64 0, .int .u64 0, .int .u64 0, .int .u64 0, .int .u64 0, .bool false, gv, .int .i64 a, .int .i64 b, .int .i64 c, .int .i64 0, .int .i64 0, .int .i64 0, .int .i64 0]
end Go.Proofs.YtdddfmdcjjbegaaGreat.Egs
namespace Go.Proofs.YtdddfmdcjjbegaaGreat.Egs
open Go.RowKit Go.Proofs BigFrame
open RingW (It KI zI ZI VI TE)
open First (Cf VC TCl)
set_option maxHeartbeats 40000000
set_option maxRecDepth 1000000
set_option linter.unusedSimpArgs false
theorem checkE_any {w : World} {cs : List Cf} {ad ap : Option Addr} {cc cp pace : Nat} {pl : List (Nat × Nat)} (hC : ClsAt w ad cs) (hP : PlnAt w ap pl) :
 Calls Tryz.prog 27 #[.agg #[.slice ad cs.length cc, .slice ap pl.length cp, .int .u64 pace]] w fun x w' => x = .returned (.int .i64 (chkE cs pl pace : Nat)) ∧ Upd Nowhere w w' := by
 by_cases h1 : cs.length = 0 ∨ 8 < cs.length
 · have e : chkE cs pl pace = 29 := by unfold chkE; rw [if_pos h1]
   rw [e]
   exact checkE_size h1
 · by_cases h2 : pace < 1 ∨ 65536 < pace
   · have e : chkE cs pl pace = 27 := by unfold chkE; rw [if_neg h1, if_pos h2]
     rw [e]
     exact checkE_pace (by omega) (by omega) h2
   · exact checkE_run hC hP (by omega) (by omega) (by omega) (by omega)
/-- New refuses what Check refuses. -/
theorem newE_no {w : World} {cs : List Cf} {ad ap : Option Addr} {cc cp pace : Nat} {pl : List (Nat × Nat)} (hC : ClsAt w ad cs) (hP : PlnAt w ap pl) (h : chkE cs pl pace ≠ 0) :
 Calls Tryz.prog 11 #[.agg #[.slice ad cs.length cc, .slice ap pl.length cp, .int .u64 pace]] w fun x w' => x = .returned (.tuple #[.pointer none, .int .i64 (chkE cs pl pace : Nat)]) ∧ Upd Nowhere w w' := by
 have hU : Upd Nowhere w (w.alloc (.cells #[.slice ad cs.length cc, .slice ap pl.length cp, .int .u64 pace] TCo)) := (Upd.refl _ _).alloc _
 have HK := Lib.hid (checkE_any (cc := cc) (cp := cp) (pace := pace) (hC.old hU) (hP.old hU))
 obtain ⟨r, hr⟩ : ∃ r, chkE cs pl pace = r := ⟨_, rfl⟩
 rw [hr] at HK h ⊢
 have d0 : ((r : Int) != 0) = true := by simp; omega
 obtain ⟨n, hn⟩ : ∃ n, cs.length = n := ⟨_, rfl⟩
 obtain ⟨m, hm⟩ : ∃ m, pl.length = m := ⟨_, rfl⟩
 rw [hn, hm] at HK hU ⊢
 have HU := Lib.hid hU
 clear hC hP h hr hn hm hU
 go_enter Tryz.func11, Tryz.ntmps11
 go_wp2_with fail
 refine (HK.out).mono ?_
 rintro x w2 ⟨rfl, u2⟩
 go_wp2_with fail
 trace_state
 exact bodyPost_ret (v := .tuple #[.pointer none, .int .i64 r]) (by simp [results, Tryz.results11, go_sem]) rfl ⟨rfl, HU.out.trans u2 (fun _ _ h => h)⟩
end Go.Proofs.YtdddfmdcjjbegaaGreat.Egs
namespace Go.Proofs.YtdddfmdcjjbegaaGreat.Egs
open Go.RowKit Go.Proofs BigFrame
open RingW (It KI zI ZI VI TE)
open First (Cf VC TCl)
set_option maxHeartbeats 4000000
set_option maxRecDepth 1000000
set_option linter.unusedSimpArgs false
/-- What an egress that is being made has. -/
abbrev MkL (e pace : Nat) (vc vp : Value) (pl : List (Nat × Nat)) (Q : List (Nat × Cf × Cs)) : List Comp := blkC e #[vc, vp, .int .u64 pace, .int .u64 0, .int .u64 0] TEg :: rowW TKp 1 vc Q.length (ptrs Q) :: rowW Plan.TS 2 vp pl.length (slc pl) :: clss Q
section
variable {wC w w1 w' : World} {X : Comp} {L : List Comp} {k e pace : Nat} {cf : Cf} {v gv vc vp : Value} {a b c : Int} {Q : List (Nat × Cf × Cs)} {pl : List (Nat × Nat)}
abbrev rowZ (cf : Cf) (v : Value) : Comp := rowC (wst cf) v cf.room.toNat 0 []
/-- A block's cell, set. -/
theorem mk_set {l1 l2 : List Comp} {g : Nat} {cs : Array Value} {t : TypeId} (h : Made wC w (l1 ++ blkC g cs t :: l2)) (j : Nat) (u : Value) : Made wC (w.setCell ⟨g, j, none⟩ u) (l1 ++ blkC g (cs.setIfInBounds j u) t :: l2) := by
 obtain ⟨o, hP, _, hF⟩ := Made.foc _ _ _ h
 refine hF _ o _ ⟨hP.1.set j u, hP.2⟩ ⟨fun _ h => .inl h, (Upd.refl _ _).setCell (a := ⟨g, j, none⟩) (fun _ => (hP.2 _).2 rfl) u⟩
theorem mk_off {l1 l2 : List Comp} {g : Nat} {cs : Array Value} {t : TypeId} (h : Made wC w (l1 ++ blkC g cs t :: l2)) : Blk w g cs t ∧ wC.heap.size ≤ g := by
 obtain ⟨o, hP, h1, _⟩ := Made.foc _ _ _ h
 exact ⟨hP.1, h1 g ((hP.2 _).2 rfl)⟩
theorem mk_gate0 {A B : Comp} (h : Made wC w (X :: A :: B :: L)) (h3 : cf.policy ≠ 3) : Made wC w (X :: A :: B :: gateC cf (.pointer none) 0 [] :: L) := by
 have h1 := h.more (C := gateC cf (.pointer none) 0 []) (o := fun _ => False) (by show GateP _ _ _ _ _ _; unfold GateP; rw [if_neg h3]; exact ⟨rfl, fun _ h => h⟩) (fun _ h => h.elim) (Upd.refl _ _)
 refine h1.perm ?_
 exact ((List.Perm.swap X _ _).trans (((List.Perm.swap A _ _).trans ((List.Perm.swap B _ _).cons A)).cons X))
theorem mk_gate3 {B : Comp} {b room most num den : Nat} (h : Made wC w (X :: blkC k (K0 cf v (.pointer none) 0 0 0) TK :: B :: L)) (h3 : cf.policy = 3) (hG : Aifo.HasG Aifo.TG RingU.TR RingU.TE (fun _ => False) w w1 b room most 0 num den []) (hu : Upd Nowhere w w1)
 (e1 : cf.room = room) (e2 : cf.window = most) (e3 : cf.num = num) (e4 : cf.den = den) :
 Made wC (w1.setCell ⟨k, 25, none⟩ (.pointer (some ⟨b, 0, none⟩))) (X :: blkC k (K0 cf v (.pointer (some ⟨b, 0, none⟩)) 0 0 0) TK :: B :: gateC cf (.pointer (some ⟨b, 0, none⟩)) 0 [] :: L) := by
 obtain ⟨rb, rg, rv, rs, g1, g2, g3⟩ := hG
 have h1 := h.more (C := gateC cf (.pointer (some ⟨b, 0, none⟩)) 0 []) (o := Aifo.GateOf b rb rg rv) (by
  show GateP _ _ _ _ _ _
  unfold GateP
  rw [if_pos h3, e3, e4]
  exact ⟨b, rb, rg, rv, rs, rfl, by rw [show cf.room.toNat = room by omega, show cf.window.toNat = most by omega]; exact g1, fun _ => Iff.rfl⟩) (fun q hq => (g2 q hq).1) hu
 have h2 := h1.perm ((List.Perm.swap X _ _).trans (((List.Perm.swap (blkC k (K0 cf v (.pointer none) 0 0 0) TK) _ _).trans ((List.Perm.swap B _ _).cons _)).cons X))
 exact mk_set (l1 := [X]) h2 25 _
theorem mk_cred {B C : Comp} (h : Made wC w (X :: blkC k (K0 cf v gv 0 0 0) TK :: B :: C :: L)) (a b c : Int) :
 Made wC ((((w.setCell ⟨k, 26, none⟩ (.int .i64 a)).setCell ⟨k, 27, none⟩ (.int .i64 b)).setCell ⟨k, 28, none⟩ (.int .i64 c)).setCell ⟨k, 29, none⟩ (.int .i64 0)) (X :: blkC k (K0 cf v gv a b c) TK :: B :: C :: L) := by
 have h1 := mk_set (l1 := [X]) h 26 (.int .i64 a)
 have h2 := mk_set (l1 := [X]) h1 27 (.int .i64 b)
 have h3 := mk_set (l1 := [X]) h2 28 (.int .i64 c)
 exact mk_set (l1 := [X]) h3 29 (.int .i64 0)
theorem mk_join (h : Made wC w (X :: blkC k (K0 cf v gv (cri cf) (crs cf) (crh cf)) TK :: rowZ cf v :: gateC cf gv 0 [] :: L)) : Made wC w (clsC k cf (s0 cf) :: L) := by
 obtain ⟨own, ⟨oA, oA', hA, ⟨oB, oB', hB, ⟨oC, oL, hC, hL, dC, eC⟩, dB, eB⟩, dA, eA⟩, h2, h3⟩ := h.drop
 refine ⟨own, ⟨fun q => oA q ∨ oB q ∨ oC q, oL, ⟨v, gv, oA, fun q => oB q ∨ oC q, hA, ⟨oB, oC, hB, Sep.one hC, fun q hq h => dB q hq ((eC q).2 (.inl h)), fun _ => Iff.rfl⟩, fun q hq h => dA q hq ((eB q).2 (h.imp id (fun h => (eC q).2 (.inl h)))), fun _ => Iff.rfl⟩, hL, fun q hq h => ?_, fun q => ?_⟩, h2, h3⟩
 · rcases hq with h1 | h1 | h1
   · exact dA q h1 ((eB q).2 (.inr ((eC q).2 (.inr h))))
   · exact dB q h1 ((eC q).2 (.inr h))
   · exact dC q h1 h
 · rw [eA q, eB q, eC q]
   simp only [or_assoc]
theorem mk_push {vc' : Value} {s : Cs} {n : Nat} (h : Made wC w (clsC k cf s :: MkL e pace vc vp pl Q)) (hn : Q.length = n) (hx : Upd Nowhere w w1) (ho : w'.ownsRow 0 TKp 1 vc' (n + 1) (ptrs Q ++ [.pointer (some ⟨k, 0, none⟩)])) (hu : Upd (fun q => vc.ownBlock = some q) w1 w') (hno : OwnOrNew w1 vc vc') :
 Made wC (w'.setCell ⟨e, 0, none⟩ vc') (MkL e pace vc' vp pl (Q ++ [(k, cf, s)])) := by
 have h1 := m_row [clsC k cf s, blkC e _ TEg] (rowW Plan.TS 2 vp pl.length (slc pl) :: clss Q) h hx ho hu hno
 have h2 := mk_set (l1 := [clsC k cf s]) (cs := #[vc, vp, .int .u64 pace, .int .u64 0, .int .u64 0]) h1 0 vc'
 have h3 := h2.perm (List.perm_append_singleton (clsC k cf s) _).symm
 have e1 : clss (Q ++ [(k, cf, s)]) = clss Q ++ [clsC k cf s] := by unfold clss; rw [List.map_append]; rfl
 have e2 : ptrs (Q ++ [(k, cf, s)]) = ptrs Q ++ [.pointer (some ⟨k, 0, none⟩)] := by unfold ptrs; rw [List.map_append]; rfl
 unfold MkL
 rw [e1, e2, List.length_append, hn]
 exact h3
theorem mk_plan {vp' : Value} {m : Nat} (h : Made wC w (MkL e pace vc vp [] Q)) (hx : Upd Nowhere w w1) (hm : pl.length = m) (ho : w'.ownsRow 0 Plan.TS 2 vp' (0 + m) ([] ++ slc pl)) (hu : Upd (fun q => vp.ownBlock = some q) w1 w') (hno : OwnOrNew w1 vp vp') :
 Blk w' e #[vc, vp, .int .u64 pace, .int .u64 0, .int .u64 0] TEg ∧ Made wC (w'.setCell ⟨e, 1, none⟩ vp') (MkL e pace vc vp' pl Q) := by
 rw [Nat.zero_add, List.nil_append] at ho
 have h1 := m_row [blkC e _ TEg, rowW TKp 1 vc Q.length (ptrs Q)] (clss Q) h hx ho hu hno
 refine ⟨(mk_off (l1 := []) h1).1, ?_⟩
 have h2 := mk_set (l1 := []) (cs := #[vc, vp, .int .u64 pace, .int .u64 0, .int .u64 0]) h1 1 vp'
 unfold MkL
 rw [hm]
 exact h2
theorem mk_box {w3 w4 : World} {o3 : Nat → Prop} (h : Made wC w (X :: L)) (hu : Upd Nowhere w w1) (h3 : Upd Nowhere w1 w3) (hR : Rq (wst cf) w3 v o3 cf.room.toNat 0 []) (ho : ∀ q, o3 q → w1.heap.size ≤ q) (h4 : Upd Nowhere w3 w4) (hB : Blk w4 k (K0 cf v (.pointer none) 0 0 0) TK) (hk : w3.heap.size ≤ k) :
 Made wC w4 (X :: blkC k (K0 cf v (.pointer none) 0 0 0) TK :: rowZ cf v :: L) := by
 have h1 := h.more (C := rowZ cf v) (o := o3) hR (fun q hq => Nat.le_trans hu.size (ho q hq)) (hu.trans h3 (fun _ _ h => h))
 have h2 := h1.more (C := blkC k (K0 cf v (.pointer none) 0 0 0) TK) (o := fun q => q = k) ⟨hB, fun _ => Iff.rfl⟩ (fun q hq => by rw [hq]; exact hk) h4
 exact h2.perm (((List.Perm.swap X _ _).cons _).trans (List.Perm.swap X _ _))
/-- What Check's nothing says. -/
theorem chkE_ok {cs : List Cf} {pl : List (Nat × Nat)} {pace : Nat} (h : chkE cs pl pace = 0) : (∀ x ∈ cs, OkF x) ∧ 1 ≤ cs.length ∧ cs.length ≤ 8 ∧ 1 ≤ pace ∧ pace ≤ 65536 ∧ (0 < pl.length → Plan.ok pl = true) := by
 unfold chkE at h
 split at h
 · omega
 · split at h
   · omega
   · split at h
     · omega
     · rename_i h1 h2 h3
       refine ⟨fun x hx => chk_ok (fstE_ok h x hx), by omega, by omega, by omega, by omega, fun hl => ?_⟩
       cases hk : Plan.ok pl with
       | true => rfl
       | false => exact absurd ⟨hl, hk⟩ h3
end
end Go.Proofs.YtdddfmdcjjbegaaGreat.Egs
namespace Go.Proofs.YtdddfmdcjjbegaaGreat.Egs
open Go.RowKit Go.Proofs BigFrame
theorem slc_at {l : List (Nat × Nat)} {w : World} {g : Nat} : ∀ {o : Nat}, Plan.At w g o l → ∀ j u, (slc l)[j]? = some u → w.cell? ⟨g, o + j, none⟩ = some u := by
 induction l with
 | nil => intro o h j u hu; cases hu
 | cons a t ih =>
   intro o h j u hu
   match j with
   | 0 =>
     obtain ⟨h1, _⟩ := h 0 a.1 a.2 rfl
     cases hu
     simpa using h1
   | 1 =>
     obtain ⟨_, h2, _⟩ := h 0 a.1 a.2 rfl
     cases hu
     simpa using h2
   | j + 2 =>
     have h' : Plan.At w g (o + 2) t := fun i b s hi => by
      have := h (i + 1) b s hi
      rw [show o + 2 + i * 2 = o + (i + 1) * 2 by omega]
      exact this
     have := ih h' j u hu
     rwa [show o + 2 + j = o + (j + 2) by omega] at this
end Go.Proofs.YtdddfmdcjjbegaaGreat.Egs

