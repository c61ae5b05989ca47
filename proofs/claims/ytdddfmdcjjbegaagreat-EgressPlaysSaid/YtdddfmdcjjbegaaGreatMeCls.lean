/- Cls, one behind the other. -/
import Derived.Test.YtdddfmdcjjbegaaGreatMePlan
import Derived.Test.YtdddfmdcjjbegaaGreatMeRow
import Derived.Test.YtdddfmdcjjbegaaGreatMeA
import Derived.Test.YtdddfmdcjjbegaaGreatMeRed
import Derived.Test.YtdddfmdcjjbegaaGreatMeCo5
import Derived.Test.YtdddfmdcjjbegaaGreatMeGate
import Derived.Test.YtdddfmdcjjbegaaGreatMeCred
import Derived.Deep.RegionHeld3
namespace Go.Proofs.YtdddfmdcjjbegaaGreat.Egs
open Go.RowKit Go.Proofs BigFrame
open RingW (It KI zI ZI VI TE)
open First (Cf VC)
set_option maxHeartbeats 1000000
set_option maxRecDepth 1000000
/-- How a class stands: what waits, its bytes; red's state; codel's; aifo's; its credit; its counts. -/
structure Cs where
 l : List (Nat × It)
 bys : Nat
 mean : Nat
 cnt : Nat
 cF : Nat
 cN : Nat
 cK : Nat
 cL : Nat
 cD : Bool
 gw : Nat
 win : List Int
 hv : Int
 inn : Nat
 left : Nat
 drp : Nat
/-- Its credit's configuration, where it has one. -/
def cri (cf : Cf) : Int := if cf.credit = true then cf.idle else 0
def crs (cf : Cf) : Int := if cf.credit = true then cf.send else 0
def crh (cf : Cf) : Int := if cf.credit = true then cf.high else 0
/-- Its cells. -/
abbrev KC (cf : Cf) (s : Cs) (v gv : Value) : Array Value := #[.int .i64 cf.room, .int .i64 cf.policy, .bool cf.credit, .int .i64 cf.idle, .int .i64 cf.send, .int .i64 cf.high, .int .u64 (cf.el : Nat), .int .u64 (cf.eh : Nat), .int .u64 (cf.em : Nat), .int .i64 cf.es, .int .u64 (cf.lt : Nat), .int .u64 (cf.li : Nat), .int .u64 (cf.lm : Nat), .int .i64 cf.window, .int .u64 (cf.num : Nat), .int .u64 (cf.den : Nat),
 v, .int .u64 (s.bys : Nat), .int .u64 (s.mean : Nat), .int .u64 (s.cnt : Nat), .int .u64 (s.cF : Nat), .int .u64 (s.cN : Nat), .int .u64 (s.cK : Nat), .int .u64 (s.cL : Nat), .bool s.cD, gv, .int .i64 (cri cf), .int .i64 (crs cf), .int .i64 (crh cf), .int .i64 s.hv, .int .i64 (s.inn : Nat), .int .i64 (s.left : Nat), .int .i64 (s.drp : Nat)]
/-- Its gate, with the policy Ranked. -/
def GateP (cf : Cf) (w : World) (gv : Value) (gw : Nat) (win : List Int) (own : Nat → Prop) : Prop :=
 if cf.policy = 3 then ∃ b rb rg rv rs, gv = .pointer (some ⟨b, 0, none⟩) ∧ Aifo.GateIn Aifo.TG RingU.TR RingU.TE w b rb rg rv cf.room.toNat cf.window.toNat gw cf.num cf.den win rs ∧ ∀ k, own k ↔ Aifo.GateOf b rb rg rv k
 else gv = .pointer none ∧ ∀ k, ¬ own k
theorem GateP.kept {cf : Cf} {w w' : World} {gv : Value} {gw : Nat} {win : List Int} {own S : Nat → Prop} (h : GateP cf w gv gw win own) (hu : Upd S w w') (hS : ∀ k, own k → ¬ S k) : GateP cf w' gv gw win own := by
 unfold GateP at h ⊢
 split
 · rename_i e
   rw [if_pos e] at h
   obtain ⟨b, rb, rg, rv, rs, h1, h2, h3⟩ := h
   exact ⟨b, rb, rg, rv, rs, h1, h2.kept hu (fun k hk => hS k ((h3 k).2 hk)), h3⟩
 · rename_i e; rw [if_neg e] at h; exact h
theorem GateP.lts {cf : Cf} {w : World} {gv : Value} {gw : Nat} {win : List Int} {own : Nat → Prop} (h : GateP cf w gv gw win own) {k : Nat} (hk : own k) : k < w.heap.size := by
 unfold GateP at h
 split at h
 · obtain ⟨b, rb, rg, rv, rs, h1, h2, h3⟩ := h; exact h2.lts ((h3 k).1 hk)
 · exact absurd hk (h.2 k)
def gateC (cf : Cf) (gv : Value) (gw : Nat) (win : List Int) : Comp := ⟨fun w o => GateP cf w gv gw win o, fun h hu hS => h.kept hu hS, fun h hk => h.lts hk⟩
/-- Is it of the policy Worst? -/
def wst (cf : Cf) : Bool := decide (cf.policy = 4)
/-- A class at block k. -/
def ClsP (w : World) (own : Nat → Prop) (k : Nat) (cf : Cf) (s : Cs) : Prop :=
 ∃ v gv, Sep w [blkC k (KC cf s v gv) TK, rowC (wst cf) v cf.room.toNat s.inn s.l, gateC cf gv s.gw s.win] own
def clsC (k : Nat) (cf : Cf) (s : Cs) : Comp := ⟨fun w o => ClsP w o k cf s, fun ⟨v, gv, h⟩ hu hS => ⟨v, gv, h.kp hu hS⟩, fun ⟨_, _, h⟩ hk => Sep.lt h hk⟩
/-- A configuration that may be. -/
structure OkF (cf : Cf) : Prop where
 r1 : 1 ≤ cf.room
 r2 : cf.room ≤ 4096
 p1 : 0 ≤ cf.policy
 p2 : cf.policy ≤ 4
 er : cf.policy = 1 → Red.ok cf.el cf.eh cf.em cf.es
 la : cf.policy = 2 → 1 ≤ cf.li ∧ cf.li ≤ 2147483648
 ga : cf.policy = 3 → 1 ≤ cf.window ∧ cf.window ≤ 1024 ∧ cf.num < cf.den ∧ cf.den ≤ 65536
 cr : cf.credit = true → Credit.okc cf.idle cf.send cf.high 0
/-- What is true of a state that may be. -/
structure OkS (cf : Cf) (s : Cs) (now c : Nat) : Prop where
 len : s.l.length ≤ cf.room.toNat
 by1 : s.bys = (s.l.map (fun a => a.2.2.2.1)).sum
 its : ∀ a ∈ s.l, 1 ≤ a.2.2.2.1 ∧ a.2.2.2.1 ≤ 65535 ∧ a.2.2.2.2.1 ≤ now ∧ a.2.2.2.2.2 < s.inn ∧ a.2.1 < 4294967296 ∧ a.2.2.1 < 4294967296
 mn : s.mean ≤ 18446744073709551615
 ct : s.cnt ≤ 18446744073709551615
 n1 : s.cN ≤ 18446744073709551615
 n2 : s.cK ≤ 18446744073709551615
 n3 : s.cL ≤ 18446744073709551615
 gw1 : cf.policy = 3 → s.gw = s.l.length
 hv1 : cf.credit = true → Credit.okc cf.idle cf.send cf.high s.hv
 hv0 : cf.credit = false → s.hv = 0
 in1 : s.inn ≤ c
 le1 : s.left + s.drp + s.l.length = s.inn
theorem sum_le {l : List (Nat × It)} {M : Nat} (h : ∀ a ∈ l, a.2.2.2.1 ≤ M) : (l.map (fun a => a.2.2.2.1)).sum ≤ l.length * M := by
 induction l with
 | nil => simp
 | cons a t ih =>
   have h1 := h a (List.mem_cons_self ..)
   have h2 := ih (fun b hb => h b (List.mem_cons_of_mem _ hb))
   rw [List.map_cons, List.sum_cons, List.length_cons, Nat.add_mul, Nat.one_mul]
   omega
theorem OkS.by2 {cf : Cf} {s : Cs} {now c : Nat} (h : OkS cf s now c) (hf : OkF cf) : s.bys ≤ 268431360 := by
 have h1 := sum_le (l := s.l) (M := 65535) (fun a ha => (h.its a ha).2.1)
 have h2 := h.len
 have h3 := hf.r2
 rw [h.by1]
 have : s.l.length * 65535 ≤ 4096 * 65535 := Nat.mul_le_mul_right _ (by omega)
 omega
/-- Whether a packet may come, by the policy; what it leaves. -/
def mayS (cf : Cf) (s : Cs) (rank : Nat) : Nat × Cs :=
 if cf.policy = 4 then (0, s)
 else if cf.policy = 3 then
  (if Aifo.mayB cf.room.toNat s.gw cf.num cf.den s.win rank = true then 0 else 21, { s with gw := if Aifo.mayB cf.room.toNat s.gw cf.num cf.den s.win rank = true then s.gw + 1 else s.gw, win := Aifo.slid cf.window.toNat s.win ++ [(rank : Int)] })
 else if cf.room.toNat ≤ s.l.length then (20, s)
 else if cf.policy = 1 then
  (if (Red.rs cf.el cf.eh cf.em cf.es s.mean s.cnt s.bys).2 = true then 21 else 0, { s with mean := (Red.rs cf.el cf.eh cf.em cf.es s.mean s.cnt s.bys).1.1, cnt := (Red.rs cf.el cf.eh cf.em cf.es s.mean s.cnt s.bys).1.2 })
 else (0, s)
section
variable {w w' : World} {own : Nat → Prop} {k : Nat} {cf : Cf} {s : Cs}
/-- A class's parts, and what becomes of it if one is turned. -/
theorem ClsP.blk (h : ClsP w own k cf s) : own k ∧ ∃ v gv o1, Blk w k (KC cf s v gv) TK ∧ Rq (wst cf) w v o1 cf.room.toNat s.inn s.l ∧ (∀ q, o1 q → own q) := by
 obtain ⟨v, gv, o, o', ⟨h1, h2⟩, ⟨o2, o3, h3, _, _, h5⟩, _, h4⟩ := h
 exact ⟨(h4 k).2 (.inl ((h2 k).2 rfl)), v, gv, o2, h1, h3, fun q hq => (h4 q).2 (.inr ((h5 q).2 (.inl hq)))⟩
/-- The block, written. -/
theorem sep_blk {w1 : World} {C C' : Array Value} {T : TypeId} {Q : List Comp} (h : Sep w (blkC k C T :: Q) own) (h0 : Upd Nowhere w w1) (hu : Upd (fun q => q = k) w1 w') (hB : Blk w' k C' T) : ∃ own', Sep w' (blkC k C' T :: Q) own' ∧ Fol w own w' own' := by
 obtain ⟨o, hC, _, hK⟩ := Sep.foc (blkC k C T) Q [] h
 exact hK w' o (blkC k C' T) ⟨hB, hC.2⟩ ⟨fun q hq => .inl hq, (h0.any _).trans hu (fun q _ hq => by rw [hq]; exact (hC.2 k).2 rfl)⟩
end
section
variable {w : World} {k : Nat} {cf : Cf} {s : Cs} {v gv : Value}
theorem kc0 (h : Blk w k (KC cf s v gv) TK) : w.cell? ⟨k, 0, none⟩ = some (.int .i64 cf.room) := h.cellAt rfl
theorem kc1 (h : Blk w k (KC cf s v gv) TK) : w.cell? ⟨k, 1, none⟩ = some (.int .i64 cf.policy) := h.cellAt rfl
theorem kc2 (h : Blk w k (KC cf s v gv) TK) : w.cell? ⟨k, 2, none⟩ = some (.bool cf.credit) := h.cellAt rfl
theorem kc6 (h : Blk w k (KC cf s v gv) TK) : w.cell? ⟨k, 6, none⟩ = some (.int .u64 (cf.el : Nat)) := h.cellAt rfl
theorem kc7 (h : Blk w k (KC cf s v gv) TK) : w.cell? ⟨k, 7, none⟩ = some (.int .u64 (cf.eh : Nat)) := h.cellAt rfl
theorem kc8 (h : Blk w k (KC cf s v gv) TK) : w.cell? ⟨k, 8, none⟩ = some (.int .u64 (cf.em : Nat)) := h.cellAt rfl
theorem kc9 (h : Blk w k (KC cf s v gv) TK) : w.cell? ⟨k, 9, none⟩ = some (.int .i64 cf.es) := h.cellAt rfl
theorem kc10 (h : Blk w k (KC cf s v gv) TK) : w.cell? ⟨k, 10, none⟩ = some (.int .u64 (cf.lt : Nat)) := h.cellAt rfl
theorem kc11 (h : Blk w k (KC cf s v gv) TK) : w.cell? ⟨k, 11, none⟩ = some (.int .u64 (cf.li : Nat)) := h.cellAt rfl
theorem kc12 (h : Blk w k (KC cf s v gv) TK) : w.cell? ⟨k, 12, none⟩ = some (.int .u64 (cf.lm : Nat)) := h.cellAt rfl
theorem kc16 (h : Blk w k (KC cf s v gv) TK) : w.cell? ⟨k, 16, none⟩ = some (v) := h.cellAt rfl
theorem kc17 (h : Blk w k (KC cf s v gv) TK) : w.cell? ⟨k, 17, none⟩ = some (.int .u64 (s.bys : Nat)) := h.cellAt rfl
theorem kc18 (h : Blk w k (KC cf s v gv) TK) : w.cell? ⟨k, 18, none⟩ = some (.int .u64 (s.mean : Nat)) := h.cellAt rfl
theorem kc19 (h : Blk w k (KC cf s v gv) TK) : w.cell? ⟨k, 19, none⟩ = some (.int .u64 (s.cnt : Nat)) := h.cellAt rfl
theorem kc20 (h : Blk w k (KC cf s v gv) TK) : w.cell? ⟨k, 20, none⟩ = some (.int .u64 (s.cF : Nat)) := h.cellAt rfl
theorem kc21 (h : Blk w k (KC cf s v gv) TK) : w.cell? ⟨k, 21, none⟩ = some (.int .u64 (s.cN : Nat)) := h.cellAt rfl
theorem kc22 (h : Blk w k (KC cf s v gv) TK) : w.cell? ⟨k, 22, none⟩ = some (.int .u64 (s.cK : Nat)) := h.cellAt rfl
theorem kc23 (h : Blk w k (KC cf s v gv) TK) : w.cell? ⟨k, 23, none⟩ = some (.int .u64 (s.cL : Nat)) := h.cellAt rfl
theorem kc24 (h : Blk w k (KC cf s v gv) TK) : w.cell? ⟨k, 24, none⟩ = some (.bool s.cD) := h.cellAt rfl
theorem kc25 (h : Blk w k (KC cf s v gv) TK) : w.cell? ⟨k, 25, none⟩ = some (gv) := h.cellAt rfl
theorem kc26 (h : Blk w k (KC cf s v gv) TK) : w.cell? ⟨k, 26, none⟩ = some (.int .i64 (cri cf)) := h.cellAt rfl
theorem kc27 (h : Blk w k (KC cf s v gv) TK) : w.cell? ⟨k, 27, none⟩ = some (.int .i64 (crs cf)) := h.cellAt rfl
theorem kc28 (h : Blk w k (KC cf s v gv) TK) : w.cell? ⟨k, 28, none⟩ = some (.int .i64 (crh cf)) := h.cellAt rfl
theorem kc29 (h : Blk w k (KC cf s v gv) TK) : w.cell? ⟨k, 29, none⟩ = some (.int .i64 s.hv) := h.cellAt rfl
theorem kc30 (h : Blk w k (KC cf s v gv) TK) : w.cell? ⟨k, 30, none⟩ = some (.int .i64 (s.inn : Nat)) := h.cellAt rfl
theorem kc31 (h : Blk w k (KC cf s v gv) TK) : w.cell? ⟨k, 31, none⟩ = some (.int .i64 (s.left : Nat)) := h.cellAt rfl
theorem kc32 (h : Blk w k (KC cf s v gv) TK) : w.cell? ⟨k, 32, none⟩ = some (.int .i64 (s.drp : Nat)) := h.cellAt rfl
end
theorem may_worst {w : World} {own : Nat → Prop} {k : Nat} {cf : Cf} {s : Cs} (h : ClsP w own k cf s) (hp : cf.policy = 4) (rank : Nat) :
 Calls Tryz.prog 37 #[.pointer (some ⟨k, 0, none⟩), .int .u64 rank] w fun e w' => e = .returned (.int .i64 0) ∧ w = w' := by
 obtain ⟨_, v, gv, o1, hB, -⟩ := h.blk
 have c1 := kc1 hB
 rw [hp] at c1
 clear hB h hp
 go_enter Tryz.func37, Tryz.ntmps37
 go_wp2_with fail
 go_ret
 exact ⟨rfl, rfl⟩
theorem may_full {w : World} {own : Nat → Prop} {k : Nat} {cf : Cf} {s : Cs} (h : ClsP w own k cf s) (hf : OkF cf) (hp : cf.policy < 3) (hl : cf.room.toNat ≤ s.l.length) (rank : Nat) :
 Calls Tryz.prog 37 #[.pointer (some ⟨k, 0, none⟩), .int .u64 rank] w fun e w' => e = .returned (.int .i64 20) ∧ Upd Nowhere w w' := by
 obtain ⟨_, v, gv, o1, hB, hR, -⟩ := h.blk
 have c1 := kc1 hB
 have c0 := kc0 hB
 have c16 := kc16 hB
 obtain ⟨T, V, fl, fh, fp, ft, M⟩ := hR.meth
 have HL := fun u (hu : Upd Nowhere w u) => Lib.hid (M.cl (hR.old hu))
 have hm := M.ml
 have he := M.el
 rw [M.eq] at c16
 have r1 := hf.r1
 have p1 := hf.p1
 obtain ⟨pl, hpl⟩ : ∃ pl : Int, cf.policy = pl := ⟨_, rfl⟩
 obtain ⟨r, hr⟩ : ∃ r : Nat, cf.room = r := ⟨cf.room.toNat, by omega⟩
 have er : cf.room.toNat = r := by omega
 obtain ⟨n, hn⟩ : ∃ n, s.l.length = n := ⟨_, rfl⟩
 rw [hn] at HL hl
 rw [er] at hl
 rw [hpl] at c1 hp p1
 rw [hr] at c0
 have d1 : decide (r ≤ n) = true := decide_eq_true hl
 have q4 : (pl == 4) = false := by simp; omega
 have q3 : (pl == 3) = false := by simp; omega
 have HF : ∀ u, Upd Nowhere w u → u.cell? ⟨k, 16, none⟩ = some (.iface T V) ∧ u.cell? ⟨k, 0, none⟩ = some (.int .i64 r) := fun u hu => ⟨cell_old hu c16, cell_old hu c0⟩
 clear hB h hR M hf r1 hpl hr er hn hl p1 hp
 go_enter Tryz.func37, Tryz.ntmps37
 go_wp2_with fail
 go_region_held3 (fun w' => Upd Nowhere w w' ∧ w'.cell? ⟨k, 16, none⟩ = some (.iface T V) ∧ w'.cell? ⟨k, 0, none⟩ = some (.int .i64 r)) (first | exact gk_start HF ((Upd.refl _ _).drew) | assumption) (first
  | (refine (gk_call HF (HL _ (by have h9 := ‹Upd Nowhere w _ ∧ _›; exact h9.1)).out (by assumption)).mono ?_; rintro e w' ⟨rfl, _, _⟩))
 rename_i hSF
 obtain ⟨hu, -, -⟩ := hSF
 go_wp2_with fail
 go_ret
 exact ⟨rfl, hu⟩
end Go.Proofs.YtdddfmdcjjbegaaGreat.Egs

