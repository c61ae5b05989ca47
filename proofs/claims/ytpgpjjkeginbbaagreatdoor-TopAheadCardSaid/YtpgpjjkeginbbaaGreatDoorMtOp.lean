/- LaidOut, Close, Open, one behind the other. -/
import Derived.Test.YtpgpjjkeginbbaaGreatDoorProg
import Derived.Test.YtpgpjjkeginbbaaGreatDoorMtA
import Derived.ProofKit
import Derived.KernelRfl
import Derived.OpenShut
import Derived.ChangeSame
import Derived.Test.YtpgpjjkeginbbaaGreatDoorRows
import Derived.Deep.Slices
namespace Go.Proofs.YtpgpjjkeginbbaaGreatDoor
open Go.Proofs
theorem laid_out : laidOutB Tryz.prog = true := by kernel_rfl
end Go.Proofs.YtpgpjjkeginbbaaGreatDoor
namespace Go.Proofs.YtpgpjjkeginbbaaGreatDoor
open Go.RowKit Go.ChangeShapes Go.WideShapes Go.ChangeAt

section
variable {H : Type} {enc : TypeId × Value → H} {P : Program}
/-- What a law leaves: its arguments read as they did, of what was there nothing has turned. -/
theorem post_of_upd {f : Func} {s : ChangeSpec} {apart fresh handsOn again : Bool} {W W' : World} {args : Array Value} {v : Value} {ds gs : List (DataW H)} {before pa pv : List MemPlace}
 (hW : DataW.Whole enc P f.params.toList s.vars apart W args.toList ds gs before)
 (hres : ∀ (b : Nat) (sp : Nat → Bool) (hd : Bool), DataW.TrodAll enc P W' b sp hd f.resultTypes.toList (v.resultList f.resultTypes.size) (s.fn H (ds ++ gs)).results [])
 (hargs : ∀ sp : Nat → Bool, (∀ p ∈ before, sp p.block = true) → DataW.TrodAll enc P W' 0 sp true f.params.toList args.toList (s.fn H (ds ++ gs)).args pa)
 (hvars : ∀ sp : Nat → Bool, (∀ p ∈ before, sp p.block = true) → DataW.TrodVars enc P W' sp s.vars (s.fn H (ds ++ gs)).vars pv)
 (hps : before = pa ++ pv) (hu : Upd Nowhere W W')
 (hok : ∀ (j : Nat) (t : TypeId) (r : Value), f.resultTypes[j]? = some t → (v.resultList f.resultTypes.size)[j]? = some r → Value.okWide P W' .any 0 t r) :
 s.post enc P f apart fresh handsOn again W args v W' := by
 have hb : Below W.heap.size W W' := hu.to_below
 have hlt : ∀ p ∈ before, p.block < W.heap.size := fun p hp => hW.lt p hp
 have hold : ∀ p ∈ before, (fun b => decide (b < W.heap.size)) p.block = true := fun p hp => by simpa using hlt p hp
 refine ⟨ds, gs, before, [], pa, pv, hW, hres _ _ _, hargs _ hold, hvars _ hold, World.keptBut_mono (fun p hp => ⟨hp, ?_⟩) (hb.frame (· ∈ before)), fun _ => ?_⟩
 · rw [hps, List.mem_append] at hp
   exact Or.inr hp
 · obtain ⟨_, _, _, _, _, hz, hn⟩ := hW
   refine ⟨hok, _, _, ([] ++ pa) ++ pv, ⟨[] ++ pa, pv, trodAll_append (hargs _ (fun _ _ => rfl)) (hres _ _ _), hvars _ (fun _ _ => rfl), rfl, ?_, ?_⟩, ?_⟩
   · intro b off hp
     have hin : MemPlace.cell b off ∈ before := by rw [hps]; simpa using hp
     rw [hb.frozen (hlt _ hin)]
     exact hz b off hin
   · intro ha
     have h1 := hn ha
     rw [hps] at h1
     simpa using h1
   · intro p hp _
     rw [hps]
     simpa using hp

theorem stays_all (hl : laidOutB P = true) {W W' : World} (hu : Upd Nowhere W W') (sp : Nat → Bool) : ∀ (ts : List TypeId) (vs : List Value) (ds : List (DataW H)) (ps : List MemPlace),
 (ts.all fun t => P.readableRec t && decide (t < P.types.size)) = true → DataW.TrodAll enc P W 0 (fun _ => true) true ts vs ds ps → (∀ p ∈ ps, p.block < W.heap.size) → (∀ p ∈ ps, sp p.block = true) →
 DataW.TrodAll enc P W' 0 sp true ts vs ds ps
 | [], vs, ds, ps, _, h, _, _ => by
   obtain ⟨rfl, rfl, rfl⟩ := trodAll_nil h
   exact trodAll_mk0
 | t :: ts, vs, ds, ps, hts, h, hlt, hsp => by
   simp only [List.all_cons, Bool.and_eq_true, decide_eq_true_eq] at hts
   obtain ⟨v, vs', d, ds', p, q, rfl, rfl, rfl, h0, hr⟩ := trodAll_cons h
   refine trodAll_cons_mk ?_ (stays_all hl hu sp ts vs' ds' q hts.2 hr (fun x hx => hlt x (List.mem_append_right _ hx)) (fun x hx => hsp x (List.mem_append_right _ hx)))
   exact WideElems.Trod_stays hl hts.1.1 hts.1.2 h0 (fun x hx => hu.to_below.same (hlt x (List.mem_append_left _ hx))) (fun x hx => hsp x (List.mem_append_left _ hx))

/-- **A law's end**: it returns true, and what was there is as it was. -/
theorem post_law {f : Func} {s : ChangeSpec} {tb : TypeId} {W W' : World} {args : Array Value} {ds gs : List (DataW H)} {before : List MemPlace}
 (hl : laidOutB P = true) (hts : (f.params.toList.all fun t => P.readableRec t && decide (t < P.types.size)) = true) (hr : f.resultTypes = #[tb]) (hb : P.underlying tb = some .bool) (hv : s.vars = [])
 (hW : DataW.Whole enc P f.params.toList s.vars false W args.toList ds gs before) (hu : Upd Nowhere W W')
 (hs : (s.fn H (ds ++ gs)).results = [.lit (.bool true)] ∧ (s.fn H (ds ++ gs)).args = ds ∧ (s.fn H (ds ++ gs)).vars = []) :
 s.post enc P f false true false false W args (.bool true) W' := by
 have hW0 := hW
 obtain ⟨p, q, hA, hV, hpq, hfz, hnd⟩ := hW
 rw [hv] at hV
 obtain ⟨rfl, rfl⟩ := trodVars_none hV
 simp only [List.append_nil] at hpq
 subst hpq
 have hlt : ∀ x ∈ before, x.block < W.heap.size := fun x hx => hW0.lt x hx
 refine post_of_upd (pa := before) (pv := []) hW0 (fun b sp hd => ?_) (fun sp hsp => ?_) (fun sp _ => ?_) (by simp) hu (ok_one hr rfl (okWide_bool_mk hb true))
 · rw [hs.1, hr]
   exact trodAll_cons_mk (shut_bool hb true) trodAll_mk0
 · rw [hs.2.1]
   exact stays_all hl hu sp _ _ _ _ hts hA hlt hsp
 · rw [hv, hs.2.2]; rfl

end
theorem bd8 {n : Int} (h : (Lit.int .u8 n).wf = true) : 0 ≤ n ∧ n ≤ 255 := bounds_u8 h
theorem bd16 {n : Int} (h : (Lit.int .u16 n).wf = true) : 0 ≤ n ∧ n ≤ 65535 := bounds_u16 h
theorem bd64 {n : Int} (h : (Lit.int .u64 n).wf = true) : 0 ≤ n ∧ n ≤ 18446744073709551615 := bounds_u64 h
theorem bdi {n : Int} (h : (Lit.int .i64 n).wf = true) : -9223372036854775808 ≤ n ∧ n ≤ 9223372036854775807 := bounds_i64 h
end Go.Proofs.YtpgpjjkeginbbaaGreatDoor
namespace Go.Proofs.YtpgpjjkeginbbaaGreatDoor
open Go.RowKit Go.ChangeShapes Go.WideShapes Go.ChangeAt Go.Deep

/-- The one-cell types of a struct's fields, in order. -/
def flatFs (P : Program) (g : TypeId → Option (List TypeId)) : List Field → Nat → Option (List TypeId)
 | [], _ => some []
 | f :: fs, o => match g f.type with
   | none => none
   | some l => match flatFs P g fs (o + l.length) with
     | none => none
     | some r => if f.offset = o ∧ P.cellsOf f.type = l.length then some (l ++ r) else none
/-- The one-cell types of an array's elements. -/
def flatArr (l : List TypeId) : Nat → List TypeId
 | 0 => []
 | k + 1 => l ++ flatArr l k
/-- The one-cell types of a type, in order. -/
def flat (P : Program) : Nat → TypeId → Option (List TypeId)
 | 0, _ => none
 | n + 1, t => match P.underlying t with
   | some (.struct fs) => match flatFs P (flat P n) fs.toList 0 with
     | none => none
     | some l => if P.cellsOf t = l.length then some l else none
   | some (.array k e) => match flat P n e with
     | none => none
     | some l => if P.cellsOf e = l.length ∧ P.cellsOf t = (flatArr l k).length then some (flatArr l k) else none
   | _ => some [t]

section
variable {H : Type} {enc : TypeId × Value → H} {P : Program} {w : World} {base : Nat} {spare : Nat → Bool} {held : Bool}
/-- A cell reads as its type's. -/
def Read1 (enc : TypeId × Value → H) (P : Program) (w : World) (base : Nat) (spare : Nat → Bool) (held : Bool) (u : TypeId) (v : Value) : Prop := ∃ m y, DataW.trod enc P w base spare held m u [v] = some y
/-- Cells read as their types'. -/
def AllRead (enc : TypeId × Value → H) (P : Program) (w : World) (base : Nat) (spare : Nat → Bool) (held : Bool) : List TypeId → List Value → Prop
 | [], [] => True
 | u :: us, v :: vs => Read1 enc P w base spare held u v ∧ AllRead enc P w base spare held us vs
 | _, _ => False
theorem AllRead.len : ∀ {us : List TypeId} {vs : List Value}, AllRead enc P w base spare held us vs → vs.length = us.length
 | [], [], _ => rfl
 | _ :: _, _ :: _, h => by rw [List.length_cons, List.length_cons, AllRead.len h.2]
 | [], _ :: _, h => h.elim
 | _ :: _, [], h => h.elim
theorem AllRead.append : ∀ {us : List TypeId} {vs : List Value} {us' : List TypeId} {vs' : List Value}, AllRead enc P w base spare held us vs → AllRead enc P w base spare held us' vs' → AllRead enc P w base spare held (us ++ us') (vs ++ vs')
 | [], [], _, _, _, h => h
 | _ :: _, _ :: _, _, _, h, h' => ⟨h.1, AllRead.append h.2 h'⟩
 | [], _ :: _, _, _, h, _ => h.elim
 | _ :: _, [], _, _, h, _ => h.elim
theorem AllRead.cons {u : TypeId} {us : List TypeId} {cs : List Value} (h : AllRead enc P w base spare held (u :: us) cs) : ∃ v vs, cs = v :: vs ∧ Read1 enc P w base spare held u v ∧ AllRead enc P w base spare held us vs := by
 cases cs with
 | nil => exact h.elim
 | cons v vs => exact ⟨v, vs, rfl, h.1, h.2⟩
theorem AllRead.nil {cs : List Value} (h : AllRead enc P w base spare held [] cs) : cs = [] := by
 cases cs with
 | nil => rfl
 | cons v vs => exact h.elim

theorem flatFs_read {g : TypeId → Option (List TypeId)} {n : Nat} (hg : ∀ t l cs x, g t = some l → DataW.trod enc P w base spare held n t cs = some x → AllRead enc P w base spare held l cs) {cs : List Value} :
 ∀ (fs : List Field) (o : Nat) (l : List TypeId), flatFs P g fs o = some l → (∀ f ∈ fs, ∃ x, DataW.trod enc P w base spare held n f.type ((cs.drop f.offset).take (P.cellsOf f.type)) = some x) → cs.length = o + l.length →
  AllRead enc P w base spare held l (cs.drop o)
 | [], o, l, h, _, hl => by
   simp only [flatFs, Option.some.injEq] at h
   subst h
   have : cs.drop o = [] := List.drop_eq_nil_of_le (by simp at hl; omega)
   rw [this]; trivial
 | f :: fs, o, l, h, hf, hl => by
   unfold flatFs at h
   split at h
   · cases h
   · rename_i l1 h1
     split at h
     · cases h
     · rename_i r hr
       split at h
       · rename_i hc
         simp only [Option.some.injEq] at h
         subst h
         obtain ⟨x, hx⟩ := hf f (by simp)
         have h2 := hg _ _ _ _ h1 hx
         rw [List.length_append] at hl
         have h3 := flatFs_read hg fs (o + l1.length) r hr (fun f' hf' => hf f' (by simp [hf'])) (by omega)
         rw [hc.1, hc.2] at h2
         have h4 := h2.append h3
         have e : (cs.drop o).take l1.length ++ cs.drop (o + l1.length) = cs.drop o := by
          rw [← List.drop_drop, List.take_append_drop]
         rw [e] at h4
         exact h4
       · cases h
theorem flatArr_len (l : List TypeId) : ∀ k, (flatArr l k).length = k * l.length
 | 0 => by simp [flatArr]
 | k + 1 => by simp [flatArr, flatArr_len l k, Nat.succ_mul, Nat.add_comm]
theorem flatArr_read {l : List TypeId} {cs : List Value} : ∀ (k i : Nat), (∀ j, j < i + k → AllRead enc P w base spare held l ((cs.drop (j * l.length)).take l.length)) → cs.length = (i + k) * l.length → AllRead enc P w base spare held (flatArr l k) (cs.drop (i * l.length))
 | 0, i, _, hl => by
   have : cs.drop (i * l.length) = [] := List.drop_eq_nil_of_le (by rw [hl]; simp)
   rw [this]; trivial
 | k + 1, i, h, hl => by
   have h1 := h i (by omega)
   have h2 := flatArr_read k (i + 1) (fun j hj => h j (by omega)) (by rw [hl]; congr 1; omega)
   have e : (cs.drop (i * l.length)).take l.length ++ cs.drop ((i + 1) * l.length) = cs.drop (i * l.length) := by
    rw [Nat.succ_mul, ← List.drop_drop, List.take_append_drop]
   have h4 := h1.append h2
   rw [e] at h4
   exact h4
/-- **Cells of a type, taken apart.** -/
theorem flat_read : ∀ (n : Nat) (t : TypeId) (l : List TypeId) (fuel : Nat) (cs : List Value) (x : DataW H × List MemPlace), flat P n t = some l → DataW.trod enc P w base spare held fuel t cs = some x → AllRead enc P w base spare held l cs
 | 0, _, _, _, _, _, h, _ => by simp [flat] at h
 | n + 1, t, l, fuel, cs, x, h, ht => by
   unfold flat at h
   split at h
   · rename_i fs hfs
     split at h
     · cases h
     · rename_i l1 h1
       split at h
       · rename_i hc
         simp only [Option.some.injEq] at h
         subst h
         obtain ⟨xs, m, _, _, hlen, hxl, hf⟩ := DataW.trod_struct hfs ht
         have h2 := flatFs_read (n := m) (g := flat P n) (cs := cs) (fun t l cs x h1 h2 => flat_read n t l m cs x h1 h2) fs.toList 0 l1 h1 (fun f hfm => by
          obtain ⟨i, hi, he⟩ := List.getElem_of_mem hfm
          have hi' : i < fs.size := by simpa using hi
          have e1 : fs[i]? = some f := by rw [Array.getElem?_eq_getElem hi']; simpa using he
          have h3 := hf i f e1
          rw [List.getElem?_eq_getElem (by omega)] at h3
          exact ⟨_, h3⟩) (by omega)
         simpa using h2
       · cases h
   · rename_i k e he
     split at h
     · cases h
     · rename_i l1 h1
       split at h
       · rename_i hc
         simp only [Option.some.injEq] at h
         subst h
         obtain ⟨xs, m, _, _, hlen, hxl, hf⟩ := DataW.trod_array he ht
         have h2 := flatArr_read (enc := enc) (P := P) (w := w) (base := base) (spare := spare) (held := held) (l := l1) (cs := cs) k 0 (fun j hj => by
          have h3 := hf j (by omega)
          rw [List.getElem?_eq_getElem (by omega)] at h3
          have h4 := flat_read n e l1 m _ _ h1 h3
          rw [hc.1] at h4
          exact h4) (by rw [hlen, hc.2, flatArr_len, Nat.zero_add])
         simpa using h2
       · cases h
   · simp only [Option.some.injEq] at h
     subst h
     rename_i h1 h2
     cases fuel with
     | zero => simp [DataW.trod] at ht
     | succ m =>
       match cs, ht with
       | [v], ht => exact ⟨⟨m + 1, x, ht⟩, trivial⟩
       | [], ht =>
         exfalso
         unfold DataW.trod at ht
         split at ht <;> simp_all
       | a :: b :: r, ht =>
         exfalso
         unfold DataW.trod at ht
         split at ht <;> simp_all

theorem Read1.int {u : TypeId} {k : IntKind} {v : Value} (hu : P.underlying u = some (.int k)) (h : Read1 enc P w base spare held u v) : ∃ n, v = .int k n ∧ (Lit.int k n).wf = true := by
 obtain ⟨m, y, h⟩ := h
 obtain ⟨n, h1, _, h2⟩ := DataW.trod_int hu h
 simp only [List.cons.injEq, and_true] at h1
 exact ⟨n, h1, h2⟩
theorem Read1.bool {u : TypeId} {v : Value} (hu : P.underlying u = some .bool) (h : Read1 enc P w base spare held u v) : ∃ b, v = .bool b := by
 obtain ⟨m, y, h⟩ := h
 cases m with
 | zero => simp [DataW.trod] at h
 | succ m =>
   unfold DataW.trod at h
   rw [hu] at h
   split at h <;> simp_all
theorem Read1.nat64 {u : TypeId} {v : Value} (hu : P.underlying u = some (.int .u64)) (h : Read1 enc P w base spare held u v) : ∃ n : Nat, v = .int .u64 n ∧ n ≤ 18446744073709551615 := by
 obtain ⟨n, rfl, hw⟩ := h.int hu
 have := bd64 hw
 exact ⟨n.toNat, by rw [Int.toNat_of_nonneg this.1], by omega⟩
theorem Read1.int64 {u : TypeId} {v : Value} (hu : P.underlying u = some (.int .i64)) (h : Read1 enc P w base spare held u v) : ∃ n : Int, v = .int .i64 n ∧ -9223372036854775808 ≤ n ∧ n ≤ 9223372036854775807 := by
 obtain ⟨n, rfl, hw⟩ := h.int hu
 exact ⟨n, rfl, bdi hw⟩

/-- A slice whose elements have C cells each, wherever it lies: its cells read as this list. -/
def RowsAt (w : World) (v : Value) (n : Nat) (vals : List Value) : Prop :=
 ∃ ad c, v = .slice ad n c ∧ (ad = none → n = 0 ∧ c = 0) ∧ n ≤ c ∧ c ≤ 9223372036854775807 ∧ ∀ b, ad = some b → ∀ j u, vals[j]? = some u → b.spot = none ∧ w.cell? ⟨b.block, b.off + j, none⟩ = some u

theorem flatMap_at {X : Type} {f : X → List Value} {C : Nat} (hf : ∀ x, (f x).length = C) : ∀ (l : List X) (j : Nat) (u : Value), (l.flatMap f)[j]? = some u → ∃ i x k, l[i]? = some x ∧ (f x)[k]? = some u ∧ j = i * C + k ∧ k < C
 | [], j, u, h => by simp at h
 | x :: l, j, u, h => by
   rw [List.flatMap_cons] at h
   rcases Nat.lt_or_ge j C with hj | hj
   · rw [List.getElem?_append_left (by rw [hf]; exact hj)] at h
     exact ⟨0, x, j, rfl, h, by omega, hj⟩
   · rw [List.getElem?_append_right (by rw [hf]; exact hj), hf] at h
     obtain ⟨i, y, k, h1, h2, h3, h4⟩ := flatMap_at hf l (j - C) u h
     exact ⟨i + 1, y, k, by simpa using h1, h2, by rw [Nat.succ_mul]; omega, h4⟩

theorem read1_of {t : TypeId} {v : Value} {d : DataW H} {p : List MemPlace} (hv : ∃ a len cap, v = .slice a len cap) (h : DataW.Trod enc P w base spare held t v d p) : Read1 enc P w base spare held t v := by
 obtain ⟨a, len, cap, rfl⟩ := hv
 obtain ⟨fuel, h⟩ := h
 exact ⟨fuel, _, h⟩
/-- **A slice among the arguments, taken apart.** -/
theorem open_rows {X : Type} {t e : TypeId} {n C : Nat} {l : List TypeId} {v : Value} (ht : P.underlying t = some (.slice e)) (hf : flat P n e = some l) (hC : P.cellsOf e = C) (hC0 : 0 < C) (f : X → List Value) (Good : X → Prop)
 (hfl : ∀ x, (f x).length = C) (hdec : ∀ cs, AllRead enc P w base spare held l cs → ∃ x, cs = f x ∧ Good x) (h : Read1 enc P w base spare held t v) :
 ∃ xs : List X, (∀ x ∈ xs, Good x) ∧ RowsAt w v xs.length (xs.flatMap f) := by
 obtain ⟨m, y, h⟩ := h
 rcases open_slice ht h with ⟨h0, _⟩ | ⟨a, len, cap, m, n', D, Pl, hcs, _, hl1, hm, hmm, _, hi⟩
 · simp only [List.cons.injEq, and_true] at h0
   subst h0
   exact ⟨[], fun x hx => (List.not_mem_nil hx).elim, none, 0, rfl, fun _ => ⟨rfl, rfl⟩, Nat.le_refl _, by omega, fun b hb => by cases hb⟩
 · simp only [List.cons.injEq, and_true] at hcs
   subst hcs
   have hlm : len ≤ m := by rw [hmm]; split <;> omega
   have hcell : ∀ i, i < len → ∃ x, Good x ∧ ∀ k, k < C → w.cell? (a.add (i * C + k)) = (f x)[k]? := by
    intro i hil
    obtain ⟨cs', hc, ht'⟩ := hi i (by omega)
    rw [hC] at hc
    obtain ⟨_, hlen, hat⟩ := World.cells?_some hc
    obtain ⟨x, rfl, hg⟩ := hdec _ (flat_read _ _ _ _ _ _ hf ht')
    exact ⟨x, hg, fun k hk => by rw [← add_add]; exact hat k hk⟩
   have hlist : ∀ N, N ≤ len → ∃ xs : List X, xs.length = N ∧ (∀ x ∈ xs, Good x) ∧ ∀ i x, xs[i]? = some x → ∀ k, k < C → w.cell? (a.add (i * C + k)) = (f x)[k]? := by
    intro N
    induction N with
    | zero => intro _; exact ⟨[], rfl, (fun x hx => (List.not_mem_nil hx).elim), (fun i x h => by simp at h)⟩
    | succ N ih =>
      intro hN
      obtain ⟨xs, h1, h2, h3⟩ := ih (by omega)
      obtain ⟨x, hg, hx⟩ := hcell N (by omega)
      refine ⟨xs ++ [x], by simp [h1], fun y hy => ?_, fun i y hy => ?_⟩
      · rcases List.mem_append.1 hy with h | h
        · exact h2 y h
        · simp only [List.mem_singleton] at h; subst h; exact hg
      · rcases Nat.lt_or_ge i N with hlt | hge
        · rw [List.getElem?_append_left (by omega)] at hy
          exact h3 i y hy
        · rw [List.getElem?_append_right (by omega)] at hy
          have : i - xs.length = 0 := by
           rcases Nat.eq_zero_or_pos (i - xs.length) with h | h
           · exact h
           · rw [List.getElem?_eq_none (by simp; omega)] at hy; cases hy
          rw [this] at hy
          simp only [List.getElem?_cons_zero, Option.some.injEq] at hy
          subst hy
          obtain rfl : i = N := by omega
          exact hx
   obtain ⟨xs, h1, h2, h3⟩ := hlist len (Nat.le_refl _)
   refine ⟨xs, h2, some a, cap, by rw [h1], (fun h => by cases h), by omega, by unfold maxLen at hm; omega, fun b hb j u hu => ?_⟩
   obtain rfl : a = b := by simpa using hb
   obtain ⟨i, x, k, hix, hk, rfl, hkC⟩ := flatMap_at hfl xs j u hu
   have hs : a.spot = none := by
    have hx0 : 0 < xs.length := by
     rcases Nat.eq_zero_or_pos xs.length with h | h
     · rw [List.eq_nil_of_length_eq_zero h] at hix; cases hix
     · exact h
    have h0 := h3 0 _ (List.getElem?_eq_getElem hx0) 0 hC0
    have e0 : a.add (0 * C + 0) = a := by simp [Addr.add]
    rw [e0, List.getElem?_eq_getElem (by rw [hfl]; exact hC0)] at h0
    cases hsp : a.spot with
    | none => rfl
    | some q =>
      simp only [World.cell?, hsp] at h0
      split at h0 <;> simp at h0
   refine ⟨hs, ?_⟩
   have h0 := h3 i x hix k hkC
   obtain ⟨g, o, sp⟩ := a
   simp only at hs
   subst hs
   rw [add_at] at h0
   rw [h0]; exact hk
end
/-- A slice of one-cell things, as a row. -/
theorem RowsAt.row {w : World} {v : Value} {vals : List Value} (h : RowsAt w v vals.length vals) : RowAt w v vals := by
 obtain ⟨ad, c, rfl, h1, _, _, h2⟩ := h
 exact ⟨ad, c, rfl, fun hn => ⟨List.eq_nil_of_length_eq_zero (h1 hn).1, (h1 hn).2⟩, h2⟩
end Go.Proofs.YtpgpjjkeginbbaaGreatDoor

