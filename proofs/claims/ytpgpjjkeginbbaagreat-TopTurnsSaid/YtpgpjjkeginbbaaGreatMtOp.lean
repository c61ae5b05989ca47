/- LaidOut, Close, one behind the other. -/
import Derived.Test.YtpgpjjkeginbbaaGreatProg
import Derived.Test.YtpgpjjkeginbbaaGreatMtA
import Derived.ProofKit
import Derived.KernelRfl
import Derived.OpenShut
import Derived.ChangeSame
import Derived.Test.YtpgpjjkeginbbaaGreatRows
namespace Go.Proofs.YtpgpjjkeginbbaaGreat
open Go.Proofs
theorem laid_out : laidOutB Tryz.prog = true := by kernel_rfl
end Go.Proofs.YtpgpjjkeginbbaaGreat
namespace Go.Proofs.YtpgpjjkeginbbaaGreat
open Go.RowKit Go.ChangeShapes Go.WideShapes Go.ChangeAt

section
variable {H : Type} {enc : TypeId × Value → H} {P : Program}
/-- What a law leaves: its arguments read as they did, of what was there nothing has turned. -/
theorem post_of_upd {f : Func} {s : ChangeSpec} {apart fresh handsOn again : Bool} {W W' : World} {args : Array Value} {v : Value} {ds gs : List (DataW H)} {before pa pv : List MemPlace}
    (hW : DataW.Whole enc P f.params.toList s.vars apart W args.toList ds gs before)
    (hres : ∀ (b : Nat) (sp : Nat → Bool) (hd : Bool), DataW.TrodAll enc P W' b sp hd f.resultTypes.toList (v.resultList f.resultTypes.size) (s.fn H (ds ++ gs)).results [])
    (hargs : ∀ sp : Nat → Bool, (∀ p ∈ before, sp p.block = true) → DataW.TrodAll enc P W' 0 sp true f.params.toList args.toList (s.fn H (ds ++ gs)).args pa)
    (hvars : ∀ sp : Nat → Bool, (∀ p ∈ before, sp p.block = true) → DataW.TrodVars enc P W' sp s.vars (s.fn H (ds ++ gs)).vars pv)
    (hps : before = pa ++ pv) (hu : Upd Nowhere W W')
    (hok : ∀ (j : Nat) (t : TypeId) (r : Value), f.resultTypes[j]? = some t → (v.resultList f.resultTypes.size)[j]? = some r → Value.okWide P W' .any 0 t r) :
    s.post enc P f apart fresh handsOn again W args v W' := by
  have hb : Below W.heap.size W W' := hu.to_below
  have hlt : ∀ p ∈ before, p.block < W.heap.size := fun p hp => hW.lt p hp
  have hold : ∀ p ∈ before, (fun b => decide (b < W.heap.size)) p.block = true := fun p hp => by simpa using hlt p hp
  refine ⟨ds, gs, before, [], pa, pv, hW, hres _ _ _, hargs _ hold, hvars _ hold, World.keptBut_mono (fun p hp => ⟨hp, ?_⟩) (hb.frame (· ∈ before)), fun _ => ?_⟩
  · rw [hps, List.mem_append] at hp
    exact Or.inr hp
  · obtain ⟨_, _, _, _, _, hz, hn⟩ := hW
    refine ⟨hok, _, _, ([] ++ pa) ++ pv, ⟨[] ++ pa, pv, trodAll_append (hargs _ (fun _ _ => rfl)) (hres _ _ _), hvars _ (fun _ _ => rfl), rfl, ?_, ?_⟩, ?_⟩
    · intro b off hp
      have hin : MemPlace.cell b off ∈ before := by rw [hps]; simpa using hp
      rw [hb.frozen (hlt _ hin)]
      exact hz b off hin
    · intro ha
      have h1 := hn ha
      rw [hps] at h1
      simpa using h1
    · intro p hp _
      rw [hps]
      simpa using hp

theorem stays_all (hl : laidOutB P = true) {W W' : World} (hu : Upd Nowhere W W') (sp : Nat → Bool) : ∀ (ts : List TypeId) (vs : List Value) (ds : List (DataW H)) (ps : List MemPlace),
    (ts.all fun t => P.readableRec t && decide (t < P.types.size)) = true → DataW.TrodAll enc P W 0 (fun _ => true) true ts vs ds ps → (∀ p ∈ ps, p.block < W.heap.size) → (∀ p ∈ ps, sp p.block = true) →
    DataW.TrodAll enc P W' 0 sp true ts vs ds ps
  | [], vs, ds, ps, _, h, _, _ => by
    obtain ⟨rfl, rfl, rfl⟩ := trodAll_nil h
    exact trodAll_mk0
  | t :: ts, vs, ds, ps, hts, h, hlt, hsp => by
    simp only [List.all_cons, Bool.and_eq_true, decide_eq_true_eq] at hts
    obtain ⟨v, vs', d, ds', p, q, rfl, rfl, rfl, h0, hr⟩ := trodAll_cons h
    refine trodAll_cons_mk ?_ (stays_all hl hu sp ts vs' ds' q hts.2 hr (fun x hx => hlt x (List.mem_append_right _ hx)) (fun x hx => hsp x (List.mem_append_right _ hx)))
    exact WideElems.Trod_stays hl hts.1.1 hts.1.2 h0 (fun x hx => hu.to_below.same (hlt x (List.mem_append_left _ hx))) (fun x hx => hsp x (List.mem_append_left _ hx))

/-- **A law's end**: it returns true, and what was there is as it was. -/
theorem post_law {f : Func} {s : ChangeSpec} {tb : TypeId} {W W' : World} {args : Array Value} {ds gs : List (DataW H)} {before : List MemPlace}
    (hl : laidOutB P = true) (hts : (f.params.toList.all fun t => P.readableRec t && decide (t < P.types.size)) = true) (hr : f.resultTypes = #[tb]) (hb : P.underlying tb = some .bool) (hv : s.vars = [])
    (hW : DataW.Whole enc P f.params.toList s.vars false W args.toList ds gs before) (hu : Upd Nowhere W W')
    (hs : (s.fn H (ds ++ gs)).results = [.lit (.bool true)] ∧ (s.fn H (ds ++ gs)).args = ds ∧ (s.fn H (ds ++ gs)).vars = []) :
    s.post enc P f false true false false W args (.bool true) W' := by
  have hW0 := hW
  obtain ⟨p, q, hA, hV, hpq, hfz, hnd⟩ := hW
  rw [hv] at hV
  obtain ⟨rfl, rfl⟩ := trodVars_none hV
  simp only [List.append_nil] at hpq
  subst hpq
  have hlt : ∀ x ∈ before, x.block < W.heap.size := fun x hx => hW0.lt x hx
  refine post_of_upd (pa := before) (pv := []) hW0 (fun b sp hd => ?_) (fun sp hsp => ?_) (fun sp _ => ?_) (by simp) hu (ok_one hr rfl (okWide_bool_mk hb true))
  · rw [hs.1, hr]
    exact trodAll_cons_mk (shut_bool hb true) trodAll_mk0
  · rw [hs.2.1]
    exact stays_all hl hu sp _ _ _ _ hts hA hlt hsp
  · rw [hv, hs.2.2]; rfl

/-- A slice of integers among the arguments: it reads as a list of numbers of its kind. -/
theorem open_row {W : World} {base : Nat} {t e : TypeId} {k : IntKind} {v : Value} {d : DataW H} {p : List MemPlace} (ht : P.underlying t = some (.slice e)) (he : P.underlying e = some (.int k)) (hc : P.cellsOf e = 1)
    (hok : Value.okWide P W .any base t v) (h : DataW.Trod enc P W 0 (fun _ => true) true t v d p) :
    ∃ l : List Int, RowAt W v (l.map (.int k)) ∧ (∀ n ∈ l, (Lit.int k n).wf = true) ∧ l.length ≤ 9223372036854775807 := by
  obtain ⟨a0, len, cap, rfl⟩ := okWide_slice ht hok
  obtain ⟨fuel, hf⟩ := h
  rcases open_ints ht he hc hf with ⟨hcs, hx⟩ | ⟨a, len', cap', zs, hcs, _, hl, hm, hz, hx, hcell, hwz⟩
  · have e : Value.slice a0 len cap = .slice none 0 0 := by simpa [Value.cells] using hcs
    rw [e]
    exact ⟨[], RowAt.nil W, (fun n hn => by cases hn), by simp⟩
  · have e : Value.slice a0 len cap = .slice (some a) len' cap' := by simpa [Value.cells] using hcs
    rw [e]
    have hz' : zs.length = cap' := by simpa using hz
    have hlen : (zs.take len').length = len' := by simp; omega
    refine ⟨zs.take len', ⟨some a, cap', by rw [List.length_map, hlen], (fun h => by cases h), fun b hb j u hu => ?_⟩, fun n hn => hwz n (List.mem_of_mem_take hn), by rw [hlen]; unfold maxLen at hm; omega⟩
    obtain rfl : a = b := by simpa using hb
    have hj : j < len' := by
      rcases Nat.lt_or_ge j len' with h' | h'
      · exact h'
      · rw [List.getElem?_eq_none (by rw [List.length_map, hlen]; exact h')] at hu; cases hu
    have hu2 : zs[j]? = some (zs.getD j 0) := by simp [List.getD]; rw [List.getElem?_eq_getElem (by omega)]; rfl
    have hu3 : u = .int k (zs.getD j 0) := by
      rw [List.getElem?_map, List.getElem?_take_of_lt hj, hu2] at hu
      simpa using hu.symm
    have h0 := hcell 0 (by omega)
    have hs : a.spot = none := by
      have e0 : a.add 0 = a := by simp [Addr.add]
      rw [e0] at h0
      cases hsp : a.spot with
      | none => rfl
      | some q =>
        simp only [World.cell?, hsp] at h0
        split at h0 <;> simp at h0
    have hcj := hcell j (by omega)
    refine ⟨hs, ?_⟩
    obtain ⟨g, o, sp⟩ := a
    simp only at hs
    subst hs
    have hadd : (⟨g, o, none⟩ : Addr).add j = ⟨g, o + j, none⟩ := add_at _ _ _
    rw [hadd] at hcj
    rw [hu3]; exact hcj
end
theorem bd8 {n : Int} (h : (Lit.int .u8 n).wf = true) : 0 ≤ n ∧ n ≤ 255 := bounds_u8 h
theorem bd32 {n : Int} (h : (Lit.int .u32 n).wf = true) : 0 ≤ n ∧ n ≤ 4294967295 := bounds_u32 h
theorem bd16 {n : Int} (h : (Lit.int .u16 n).wf = true) : 0 ≤ n ∧ n ≤ 65535 := bounds_u16 h
theorem bd64 {n : Int} (h : (Lit.int .u64 n).wf = true) : 0 ≤ n ∧ n ≤ 18446744073709551615 := bounds_u64 h
theorem bdi {n : Int} (h : (Lit.int .i64 n).wf = true) : -9223372036854775808 ≤ n ∧ n ≤ 9223372036854775807 := bounds_i64 h
end Go.Proofs.YtpgpjjkeginbbaaGreat

