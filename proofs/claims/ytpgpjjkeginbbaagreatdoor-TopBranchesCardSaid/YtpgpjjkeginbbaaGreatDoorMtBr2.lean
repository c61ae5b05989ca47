/- Br2, Br3, one behind the other. -/
import Derived.Test.YtpgpjjkeginbbaaGreatDoorMtBr1
import Derived.Test.YtpgpjjkeginbbaaGreatDoorMtOne
import Derived.Test.YtpgpjjkeginbbaaGreatDoorMtSh8
import Derived.Test.YtpgpjjkeginbbaaGreatDoorMtTr2
namespace Go.Proofs.YtpgpjjkeginbbaaGreatDoor.Br
open Go.RowKit Go.Proofs BigFrame
set_option linter.unusedSimpArgs false
/-- A step. -/
structure Stp where
 leave : Bool
 flow : Int
 len : Nat
def stL (x : Stp) : List Value := [.bool x.leave, .int .i64 x.flow, .int .u64 (x.len : Nat)]
def StpsIn (w : World) (ad : Option Addr) (l : List Stp) : Prop := ∀ (k : Nat) (x : Stp), l[k]? = some x → ∃ g o, ad = some ⟨g, o, none⟩ ∧ w.cell? ⟨g, o + k * 3, none⟩ = some (.bool x.leave) ∧ w.cell? ⟨g, o + k * 3 + 1, none⟩ = some (.int .i64 x.flow) ∧ w.cell? ⟨g, o + k * 3 + 2, none⟩ = some (.int .u64 (x.len : Nat))
theorem StpsIn.old {w w' : World} {ad : Option Addr} {l : List Stp} (h : StpsIn w ad l) (hu : Upd Nowhere w w') : StpsIn w' ad l := fun k f hf => by
 obtain ⟨g, o, e, c0, c1, c2⟩ := h k f hf
 exact ⟨g, o, e, cell_old hu c0, cell_old hu c1, cell_old hu c2⟩
theorem stps_of {w : World} {v : Value} {l : List Stp} (h : RowsAt w v l.length (l.flatMap stL)) : ∃ ad c, v = .slice ad l.length c ∧ StpsIn w ad l := by
 obtain ⟨ad, c, h1, _, h2⟩ := Shm.rows_get (f := stL) (C := 3) (fun _ => rfl) (by omega) h
 refine ⟨ad, c, h1, fun k f hf => ?_⟩
 obtain ⟨g, o, e, h4⟩ := h2 k f hf
 exact ⟨g, o, e, h4 0 _ rfl, h4 1 _ rfl, h4 2 _ rfl⟩
theorem costs_of {v : Value} {l : List Int} {w : World} (hr : RowAt w v (l.map (.int .u64))) (hw : ∀ n ∈ l, (Lit.int .u64 n).wf = true) : ∃ ad c, v = .slice ad (l.map Int.toNat).length c ∧ CostsIn w ad (l.map Int.toNat) ∧ ∀ x ∈ l.map Int.toNat, x ≤ 18446744073709551615 := by
 have hb : ∀ x ∈ l, 0 ≤ x ∧ x ≤ 18446744073709551615 := fun x hx => by have := bd64 (hw x hx); omega
 obtain ⟨ad, c, rfl, h0, h1⟩ := hr
 refine ⟨ad, c, by rw [List.length_map, List.length_map], fun k x hx => ?_, fun x hx => by obtain ⟨y, hy, rfl⟩ := List.mem_map.1 hx; have := hb y hy; omega⟩
 rw [List.getElem?_map] at hx
 cases hy : l[k]? with
 | none => rw [hy] at hx; cases hx
 | some y =>
   rw [hy] at hx
   cases hx
   cases ad with
   | none =>
     have h9 := (h0 rfl).1
     rw [List.map_eq_nil_iff] at h9
     rw [h9] at hy; cases hy
   | some b =>
     have h2 := h1 b rfl k (.int .u64 y) (by rw [List.getElem?_map, hy]; rfl)
     have h3 := hb y (List.mem_of_getElem? hy)
     obtain ⟨g, o, sp⟩ := b
     have hs := h2.1
     simp only at hs
     subst hs
     exact ⟨g, o, rfl, by rw [show ((y.toNat : Nat) : Int) = y by omega]; exact h2.2⟩
theorem wide_ids (ws : List Nat) : (wfl ws).map (·.id) = List.range ws.length := by
 unfold wfl
 rw [List.map_map]
 exact List.map_id _
theorem wide_mem {ws : List Nat} (hw : ∀ x ∈ ws, x ≤ 18446744073709551615) {f : Sh.Fl} (hf : f ∈ wfl ws) : f.id < ws.length ∧ f.cost ≤ Sh.mx ∧ f.budget = 0 ∧ f.size = 0 ∧ f.cap = Sh.mx := by
 unfold wfl at hf
 obtain ⟨i, hi, rfl⟩ := List.mem_map.1 hf
 have hi := List.mem_range.1 hi
 refine ⟨hi, ?_, rfl, rfl, rfl⟩
 show ws.getD i 0 ≤ Sh.mx
 rw [List.getD_eq_getElem?_getD, List.getElem?_eq_getElem hi]
 exact hw _ (List.getElem_mem _)
theorem wide_ok {ws : List Nat} {back : Int} (h1 : 1 ≤ ws.length) (h12 : ws.length ≤ 12) (hb : back = 1 ∨ back = 2) (hw : ∀ x ∈ ws, x ≤ 18446744073709551615) : Sh.Cok (wide ws back) := by
 have ht : Sh.twice (wfl ws) = false := Rnk.twice_no (by show ((wfl ws).map Sh.Fl.id).Nodup; rw [wide_ids]; exact List.nodup_range)
 have hk : Sh.chk (wide ws back) = 0 := by
  unfold Sh.chk
  rw [if_neg (by show ¬ ((1 : Int) < 1 ∨ (3 : Int) < 1 ∨ back < 1 ∨ 3 < back); omega), if_neg (by show ¬ ((2 : Int) < 1 ∨ (3 : Int) < 2); omega), if_neg (by show ¬ ((1 : Int) < 1 ∨ (32 : Int) < 1); omega), if_neg (by show ¬ ((4096 : Int) < 1 ∨ (4096 : Int) < 4096 ∨ (1099511627776 : Nat) = 0 ∨ (16 : Int) < 0 ∨ (16 : Int) < 16); omega), if_neg (by show ¬ (Sh.mx / 2 ^ (16 : Int).toNat < 1099511627776); decide), if_neg (by show ¬ ((65535 : Nat) < 1 ∨ 65535 < 65535); omega), if_neg (by show ¬ ((wfl ws).length = 0 ∨ 64 < (wfl ws).length); rw [wfl_len]; omega), if_neg (by show ¬ Sh.twice (wfl ws) = true; rw [ht]; simp), if_neg (by show ¬ ((1 : Nat) = 0); omega), if_neg (by show ¬ (Sh.mx < 65535); decide)]
 refine ⟨hk, (show (1099511627776 : Nat) ≤ Sh.mx by decide), (show (1 : Nat) ≤ Sh.mx by decide), (show Sh.mx ≤ Sh.mx by decide), (show (65535 : Nat) ≤ 65535 by decide), by show (1 : Int) ≤ 4096 ∧ (4096 : Int) ≤ 4096; omega, fun f hf => ?_⟩
 obtain ⟨a1, a2, a3, a4, a5⟩ := wide_mem hw hf
 rw [a3, a4, a5]
 exact ⟨by omega, a2, Nat.zero_le _, Nat.zero_le _, Nat.le_refl _⟩
theorem wide_good {ws : List Nat} {back : Int} (h : Sh.Cok (wide ws back)) : Sh.Good (wide ws back) (Sh.st0 (wide ws back)) := Sh.good_st0 h (by show (1 : Int) ≤ 1 ∧ (1 : Int) ≤ 32; omega)
theorem flat_fit64 {ws : List Nat} (hw : ∀ x ∈ ws, x ≤ 18446744073709551615) : Tree.FitN (Tree.flatN 3 ws 0) := fun a ha => by
 rcases List.mem_cons.1 ha with rfl | ha
 · exact ⟨Nat.zero_le _, Nat.zero_le _⟩
 · obtain ⟨x, hx, rfl⟩ := List.mem_map.1 ha
   exact ⟨hw x hx, Nat.zero_le _⟩
theorem sh_ok {ws : List Nat} (h12 : ws.length ≤ 12) (hw : ∀ x ∈ ws, x ≤ 18446744073709551615) : (Tree.shOf (Tree.flatN 3 ws 0)).Ok := Tree.shOf_ok (Tree.flatN_ok (by omega) (by omega)) (by rw [Tree.flatN_len]; omega) (by rw [Tree.flatN_len]; omega) (flat_fit64 hw)
end Go.Proofs.YtpgpjjkeginbbaaGreatDoor.Br
namespace Go.Proofs.YtpgpjjkeginbbaaGreatDoor.Br
open Go.RowKit Go.Proofs BigFrame
open Shm (shC do_any Allow VOp vre VRe VSt TRe DoPost)
set_option maxRecDepth 100000
set_option linter.unusedSimpArgs false
theorem step_pop {ws : List Nat} {kd : Int} {k : Nat} {st : Sh.St} {s : Tree.TS} {M : List (Nat × Sh.Pk)} {c : Sh.Cg} {sh : Tree.Sh} (hc : wide ws kd = c) (hsh : Tree.shOf (Tree.flatN 3 ws 0) = sh) (hs : sh.Ok) (hw : 0 < ws.length) (hgt : Tree.Good sh 4096 s) (h : Br ws k st s M) (hg : Sh.Good c st) (hck : Sh.Cok c) (hk : k < 150) :
 ∃ r st' p0 p1 p2 v s' M', Sh.doS c st ⟨2, 0, 0, 0, 0⟩ = (r, st') ∧ Tree.pop sh s 0 = ((p0, p1, p2), v, s') ∧ r.pkt = (p0, p1, p2) ∧ r.code = v ∧ Br ws (k + 1) st' s' M' ∧ Sh.Good c st' := by
 subst hc hsh
 obtain ⟨h1, h2, M', h3⟩ := br_pop hs (Tree.flat_sh 3 ws 0) hw hgt h hg hk
 have hd : Sh.doS (wide ws kd) st ⟨2, 0, 0, 0, 0⟩ = Sh.deq (wide ws kd) st := by
  unfold Sh.doS
  rw [if_neg (by decide), if_pos (by decide)]
 have hgd : Sh.Good (wide ws kd) (Sh.doS (wide ws kd) st ⟨2, 0, 0, 0, 0⟩).2 := hg.run hck (l := [⟨2, 0, 0, 0, 0⟩]) (fun y hy => by
  rw [List.mem_singleton] at hy
  subst hy
  unfold Sh.Op.Ok Sh.mx
  decide)
 rw [hd] at hgd ⊢
 exact ⟨_, _, _, _, _, _, _, M', rfl, rfl, h1, h2, h3, hgd⟩
theorem step_push {ws : List Nat} {kd : Int} {k : Nat} {st : Sh.St} {s : Tree.TS} {M : List (Nat × Sh.Pk)} {c : Sh.Cg} {sh : Tree.Sh} (hc : wide ws kd = c) (hsh : Tree.shOf (Tree.flatN 3 ws 0) = sh) (h : Br ws k st s M) (hg : Sh.Good c st) (hck : Sh.Cok c) (hk : k < 150) {i : Nat} (hi : i < ws.length) (hi32 : i < 4294967296) (id n : Nat) (hid : id < 4294967296) (hn : n ≤ 18446744073709551615) :
 ∃ r st' v s' M', Sh.doS c st ⟨1, i, id, n, 0⟩ = (r, st') ∧ Tree.push sh 4096 s 0 ((i + 1 : Nat) : Int) (i, id, n) = (v, s') ∧ r.code = v ∧ Br ws (k + 1) st' s' M' ∧ Sh.Good c st' := by
 subst hc hsh
 obtain ⟨h1, M', h3⟩ := br_push (Tree.flat_sh 3 ws 0) h hg hk hi id n
 have hd : Sh.doS (wide ws kd) st ⟨1, i, id, n, 0⟩ = Sh.enq (wide ws kd) st ⟨1, i, id, n, 0⟩ := by
  unfold Sh.doS
  rw [if_pos (show Sh.known (1 : Int) = 1 by decide)]
 have hgd : Sh.Good (wide ws kd) (Sh.doS (wide ws kd) st ⟨1, i, id, n, 0⟩).2 := hg.run hck (l := [⟨1, i, id, n, 0⟩]) (fun y hy => by
  rw [List.mem_singleton] at hy
  subst hy
  unfold Sh.Op.Ok Sh.mx
  dsimp only
  omega)
 rw [hd] at hgd ⊢
 exact ⟨_, _, _, _, M', rfl, rfl, h1, h3, hgd⟩
theorem step_stats {ws : List Nat} {k : Nat} {st : Sh.St} {s : Tree.TS} {M : List (Nat × Sh.Pk)} {c : Sh.Cg} (h : Br ws k st s M) (hg : Sh.Good c st) : ∃ r, Sh.doS c st ⟨4, 0, 0, 0, 0⟩ = (r, st) ∧ r.pk = s.m := by
 refine ⟨_, by unfold Sh.doS; rw [if_neg (by decide), if_neg (by decide), if_neg (by decide), if_pos (by decide)], ?_⟩
 show st.pk = s.m
 rw [hg.pk, h.bk, h.m]
 rfl
section
variable {R : World → Value → (Nat → Prop) → Nat → Nat → Sh.Bk → Prop}
theorem m_do (hR : Bk.Laws R) {w0 w : World} {l1 l2 : List Comp} {L : Shm.Lay} {c : Sh.Cg} {cnt : Nat} {st st' : Sh.St} {x : Sh.Op} {r : Sh.Re} (h : Made w0 w (l1 ++ shC hR L c cnt st :: l2)) (hg : Sh.Good c st) (hc : Sh.Cok c) (hx : x.Ok) (hcnt : cnt < 18446744073709551615) (hal : Allow hR c st x) (hev : ∀ o, (∀ k, o k → w0.heap.size ≤ k) → hR.Ev w o) (hd : Sh.doS c st x = (r, st')) :
 Calls Tryz.prog 10 #[.pointer (some ⟨L.s, 0, none⟩), .agg (VOp x)] w fun e w' => e = .returned (.agg (vre r)) ∧ ∃ cnt', cnt' ≤ cnt + 1 ∧ Made w0 w' (l1 ++ shC hR L c cnt' st' :: l2) := by
 obtain ⟨o, hP, hge, hback⟩ := Made.foc _ _ _ h
 refine (do_any hR hP hg hc hx hcnt hal (hev o hge)).mono ?_
 rintro e w' ⟨rfl, own', cnt', hle, h4, f4⟩
 rw [hd] at h4 ⊢
 exact ⟨rfl, cnt', hle, hback w' own' (shC hR L c cnt' st') h4 f4⟩
end
theorem made_sto {wC w w' : World} {l : List Comp} {g : Nat} {cs V : Array Value} {t : TypeId} (h : Made wC w (blkC g cs t :: l)) (hB : Blk w' g V t) (hu : Upd (fun k => k = g) w w') : Made wC w' (blkC g V t :: l) := by
 obtain ⟨o, hP, _, hF⟩ := Made.foc _ l [] h
 exact hF w' o (blkC g V t) ⟨hB, hP.2⟩ ⟨fun _ h => .inl h, hu.mono (fun q _ e => (hP.2 q).2 e)⟩
abbrev TSt : TypeId := 49
theorem fld_stats (kind : Int) (code x0 x1 x2 rank now tok p b : Nat) (r : Nat → Nat) (u : World) : (Instr.field TRe (.agg (VRe kind code x0 x1 x2 rank now tok p b r)) 4).run Tryz.prog u = .ok (.agg (VSt now tok p b r)) u := by kernel_rfl
theorem fld_pk (now tok p b : Nat) (r : Nat → Nat) (u : World) : (Instr.field TSt (.agg (VSt now tok p b r)) 2).run Tryz.prog u = .ok (.int .i64 (p : Nat)) u := by kernel_rfl
theorem fld_any (r : Sh.Re) : ∃ VS, (∀ u, (Instr.field TRe (.agg (vre r)) 4).run Tryz.prog u = .ok (.agg VS) u) ∧ ∀ u, (Instr.field TSt (.agg VS) 2).run Tryz.prog u = .ok (.int .i64 (r.pk : Nat)) u :=
 ⟨_, fun _ => fld_stats .., fun _ => fld_pk ..⟩
end Go.Proofs.YtpgpjjkeginbbaaGreatDoor.Br

