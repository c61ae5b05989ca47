/- sppifo's queues of int: Lay. -/
import Derived.Test.YtopibbaopglggaaSpI7
import Derived.Test.YtopibbaopglggaaSpStands
import Derived.Test.YtopibbaopglggaaSpRise
import Derived.Test.YtopibbaopglggaaNest
import Derived.Test.YtopibbaopglggaaRef12d
import Derived.Laws.CopyOwn
import Derived.Deep.CutBlock
namespace Go.Proofs.Ytopibbaopglggaa.SpI
open Go.RowKit Go.Proofs BigFrame
open PairI (TR TE el flat)
open Ref12 (Nest NestOf nums vals vals_at vals_len layC tot_mono)
set_option maxHeartbeats 1000000
set_option maxRecDepth 1000000
section
variable {S R E PT U : TypeId} {w w1 w' : World} {s gq gb cq n room cnt : Nat} {rb : Nat → Nat} {rg : Nat → Option Nat} {bs f : Nat → Nat} {qs : Nat → List (Value × Value)}
theorem newB (h : SpIn S R E PT U w s gq gb cq n room cnt rb rg bs qs) {cur : Array Value} (hb : Blk w' gb cur U) (hs : cur.size = n) (hc : ∀ i, i < n → cur[i]? = some (.int .u64 (f i : Nat))) (hu : Upd (fun k => k = gb) w w') : SpIn S R E PT U w' s gq gb cq n room cnt rb rg f qs := by
  obtain ⟨cur2, p1, p2⟩ := h.ptr
  exact { h with blk := h.blk.kept hu h.sb, bnd := ⟨cur, hb, hs, hc⟩, ptr := ⟨cur2, p1.kept hu (Ne.symm h.bq), p2⟩, ring := fun i hi => (h.ring i hi).kept hu (fun k hk e => (h.off i hi k hk).2.1 e) }
theorem newQ {gq' cq' : Nat} {rb' : Nat → Nat} (h : SpIn S R E PT U w s gq gb cq n room cnt rb rg bs qs) (hR : Rings R E PT w w1 (.slice (some ⟨gq', 0, none⟩) n cq') rb' n room) (T : Nat) :
    SpIn S R E PT U ((w1.setCell ⟨s, 0, none⟩ (.slice (some ⟨gq', 0, none⟩) n cq')).setCell ⟨s, 3, none⟩ (.int .i64 T)) s gq' gb cq' n room T rb' (fun _ => none) bs (fun _ => []) ∧ (∀ k, SpOf s gq' gb n rb' (fun _ => none) k → SpOf s gq gb n rb rg k ∨ w.heap.size ≤ k) := by
  have hgq := (hR.row.lt gq' rfl).1
  have hs := h.blk.lt
  obtain ⟨cb, b1, b2, b3⟩ := h.bnd
  have hgb := b1.lt
  have hu : Upd (fun k => k = s) w1 ((w1.setCell ⟨s, 0, none⟩ (.slice (some ⟨gq', 0, none⟩) n cq')).setCell ⟨s, 3, none⟩ (.int .i64 T)) := ((Upd.refl (fun k => k = s) w1).setCell (a := ⟨s, 0, none⟩) (fun _ => rfl) _).setCell (a := ⟨s, 3, none⟩) (fun _ => rfl) _
  have hlow : ∀ i, i < n → w.heap.size ≤ rb' i := hR.low
  have hgqr : ∀ i, i < n → gq' ≠ rb' i := fun i hi e => hR.off i hi (by rw [← e]; rfl)
  obtain ⟨_, ⟨h0, _⟩ | ⟨g, c, cur2, hv, hb2, hg2, hcap, _, hcs2, hct2⟩⟩ := hR.row
  · cases h0
  cases hv
  refine ⟨⟨((h.blk.kept hR.upd id).set 0 _).set 3 _, ⟨cb, (b1.kept hR.upd id).kept hu (Ne.symm h.sb), b2, b3⟩, ⟨cur2, Blk.kept (show Blk w1 gq' cur2 PT from hg2) hu (by omega), fun i hi => took_at hct2 (by rw [ptrs_at rb' hi]) (by rw [ptrs_len]; exact hi)⟩, fun i hi => (hR.ring i hi).kept hu (fun k hk e => ?_), h.npos, h.nle, h.rle, h.sb, by omega, by omega, fun i hi k hk => ?_, fun i j hi hj hij k hk hk2 => ?_⟩, fun k hk => ?_⟩
  · rcases hk with rfl | hk
    · have := hlow i hi; omega
    · cases hk
  · rcases hk with rfl | hk
    · have := hlow i hi; have := hgqr i hi; exact ⟨by omega, by omega, fun e => hgqr i hi e.symm⟩
    · cases hk
  · rcases hk with rfl | hk
    · rcases hk2 with hk2 | hk2
      · exact hR.apart i j hi hj hij hk2
      · cases hk2
    · cases hk
  · rcases hk with rfl | rfl | rfl | ⟨i, hi, hk⟩
    · exact .inl (.inl rfl)
    · exact .inr hgq
    · exact .inl (.inr (.inr (.inl rfl)))
    · rcases hk with rfl | hk
      · exact .inr (hlow i hi)
      · cases hk
end
/-- The queues, as far as they are laid. -/
def qcur (Q : Nat → List (Int × Int)) (i j : Nat) : Nat → List (Int × Int) := fun x => if x < i then Q x else if x = i then (Q x).take j else []
theorem qcur_zero (Q : Nat → List (Int × Int)) : qcur Q 0 0 = fun _ => [] := by
  funext x; unfold qcur; rw [if_neg (by omega)]; split <;> rfl
theorem qcur_at (Q : Nat → List (Int × Int)) (i j : Nat) : qcur Q i j i = (Q i).take j := by unfold qcur; rw [if_neg (by omega), if_pos rfl]
theorem qcur_step (Q : Nat → List (Int × Int)) (i j : Nat) {e : Int × Int} (he : (Q i)[j]? = some e) : upd (fun x => (qcur Q i j x).map el) i (((Q i).take j ++ [e]).map el) = fun x => (qcur Q i (j + 1) x).map el := by
  funext x
  unfold upd
  by_cases hx : x = i
  · subst hx
    rw [if_pos rfl, qcur_at, List.take_add_one, he]; rfl
  · rw [if_neg hx]
    have e : qcur Q i j x = qcur Q i (j + 1) x := by
      unfold qcur
      by_cases h1 : x < i
      · rw [if_pos h1, if_pos h1]
      · rw [if_neg h1, if_neg hx, if_neg h1, if_neg hx]
    show (qcur Q i j x).map el = (qcur Q i (j + 1) x).map el
    rw [e]
theorem qcur_next (Q : Nat → List (Int × Int)) (i : Nat) : qcur Q i (Q i).length = qcur Q (i + 1) 0 := by
  funext x
  unfold qcur
  by_cases h1 : x < i
  · rw [if_pos h1, if_pos (by omega)]
  · by_cases h2 : x = i
    · subst h2; rw [if_neg h1, if_pos rfl, if_pos (by omega), List.take_of_length_le (Nat.le_refl _)]
    · rw [if_neg h1, if_neg h2, if_neg (by omega)]
      split
      · rfl
      · rfl
theorem congrQ {S R E PT U : TypeId} {w : World} {s gq gb cq n room cnt : Nat} {rb : Nat → Nat} {rg : Nat → Option Nat} {bs : Nat → Nat} {qs qs' : Nat → List (Value × Value)} (h : SpIn S R E PT U w s gq gb cq n room cnt rb rg bs qs) (hq : ∀ i, i < n → qs i = qs' i) : SpIn S R E PT U w s gq gb cq n room cnt rb rg bs qs' :=
  { h with ring := fun i hi => by rw [← hq i hi]; exact h.ring i hi }
section
variable {A : Nat → Prop} {w0 w : World} {s n room cnt : Nat} {bs : Nat → Nat} {qs : Nat → List (Int × Int)}
theorem lay_len (h : HasA A w0 w s n room cnt bs qs) (ad al : Option Addr) (n1 n2 c1 c2 : Nat) (hne : n1 ≠ n ∨ n2 ≠ n) :
    Calls Try.prog 41 #[.pointer (some ⟨s, 0, none⟩), .slice ad n1 c1, .slice al n2 c2] w fun e w' => e = .returned (.int .i64 6) ∧ w = w' := by
  obtain ⟨gq, gb, cq, rb, rg, h1, _⟩ := h
  obtain ⟨k0, k1, k2, k3, z0, z1, z2, z3⟩ := cells4 h1.blk
  clear h1
  by_cases h1 : n1 = n
  · subst h1
    have d1 : ((n2 : Int) != n1) = true := by simp; omega
    have d2 : ((n1 : Int) != n1) = false := by simp
    clear hne
    go_enter Try.func41, Try.ntmps41
    go_wp2_with fail
    go_ret
    exact ⟨rfl, rfl⟩
  · have d2 : ((n1 : Int) != n) = true := by simp; omega
    clear hne h1
    go_enter Try.func41, Try.ntmps41
    go_wp2_with fail
    go_ret
    exact ⟨rfl, rfl⟩
abbrev TIt : TypeId := 95
abbrev TLt : TypeId := 92
theorem lay_any (h : HasA A w0 w s n room cnt bs qs) (hA : ∀ k, A k → k < w.heap.size) (hn : 0 < n) (hr1 : 1 ≤ room) {ad : Option Addr} {f : Nat → Nat} (hf : Nums w ad n f) (hf64 : ∀ i, i < n → f i ≤ 18446744073709551615) (hgb : ∀ g, ad = some g → g.block < w0.heap.size) {l2 : Value} {B : Nat} {vs2 : Nat → Value} {qs2 : Nat → List (Nat × Int)} (hN : Nest TIt TLt B w l2 vs2 qs2 n) (hNA : ∀ k, NestOf l2 vs2 n k → A k) (htot : tot qs2 n ≤ 1000000) (ca : Nat) :
    Calls Try.prog 41 #[.pointer (some ⟨s, 0, none⟩), .slice ad n ca, l2] w fun e w' => e = .returned (.int .i64 (layC f qs2 n room : Nat)) ∧
      (layC f qs2 n room ≠ 0 → Upd Nowhere w w') ∧ (layC f qs2 n room = 0 → HasA A w0 w' s n room (tot qs2 n) f (upq qs2) ∧ Upd (fun k => w0.heap.size ≤ k ∧ ¬ A k) w w') := by
  obtain ⟨i0, hi, hz0, hz1, hz2⟩ := info_parts infoU
  have hsz : (Try.prog.info? TU).map (·.size) = some 1 := by rw [hi]; exact congrArg some hz1
  obtain ⟨gq, gb, cq, rb, rg, h1, hS, hlow, -, -, -⟩ := h
  obtain ⟨g2, c2', rfl, hl2⟩ := hN.cell hn
  obtain ⟨ga, oa, rfl, hfc⟩ := hf.at hn
  have hgalt : ga < w0.heap.size := hgb _ rfl
  obtain ⟨k0, k1, k2, k3, z0, z1, z2, z3⟩ := cells4 h1.blk
  have hnl := h1.nle
  have hrl := h1.rle
  have HRI := fun u (hu : Upd Nowhere w u) => Lib.hid (rises_any (hf.old hu) (by omega) ca)
  obtain ⟨C, hC⟩ : ∃ C, layC f qs2 n room = C := ⟨_, rfl⟩
  have d1 : ((n : Int) != n) = false := by simp
  have H := Lib.hid h1
  have HS := Lib.hid hS
  have HN := Lib.hid hN
  have HNA := Lib.hid hNA
  have HFC := Lib.hid hfc
  have HL2 := Lib.hid hl2
  have HTOT := Lib.hid htot
  have HF64 := Lib.hid hf64
  have HAlt := Lib.hid hA
  rw [hC]
  have HC := Lib.hid hC
  cases hrs : rs f n with
  | false =>
    have hC6 : C = 6 := by rw [← hC]; unfold layC; rw [if_neg (by rw [hrs]; simp)]
    rw [hrs] at HRI
    subst hC6
    clear h1 hS hN hNA hfc hl2 htot hf64 hA hC HC hrs hf hgb
    go_enter Try.func41, Try.ntmps41
    go_wp2_with fail
    refine (HRI _ (Upd.refl _ _)).out.mono ?_
    rintro e w1 ⟨rfl, q, rfl⟩
    go_wp2_with fail
    go_ret
    exact ⟨rfl, fun _ => (Upd.refl _ _).drewN _, fun h => absurd h (by decide)⟩
  | true =>
    have HRS := Lib.hid hrs
    rw [hrs] at HRI
    clear h1 hS hN hNA hfc hl2 htot hf64 hA hC hrs hf hgb
    go_enter Try.func41, Try.ntmps41
    go_wp2_with fail
    refine (HRI _ (Upd.refl _ _)).out.mono ?_
    rintro e w1 ⟨rfl, q, rfl⟩
    obtain ⟨w1, hw1⟩ : ∃ w1, w.drewN q = w1 := ⟨_, rfl⟩
    have HU1 := Lib.hid (show Upd Nowhere w w1 by rw [← hw1]; exact (Upd.refl _ _).drewN q)
    rw [hw1]
    replace k0 := cell_old HU1.out k0
    replace k1 := cell_old HU1.out k1
    replace k2 := cell_old HU1.out k2
    replace k3 := cell_old HU1.out k3
    clear hw1 z0 z1 z2 z3 HRI
    go_wp2_with fail
    go_loopw [7, 41] (fun sv i wr => ∃ k : Nat, k ≤ n ∧ i = .int .i64 k ∧ sv = .int .i64 (tot qs2 k : Nat) ∧ tot qs2 k ≤ room ∧ w1 = wr) (fun _ i _ => n - (intOf i).toNat)
    case atStart => exact ⟨0, by omega, rfl, rfl, Nat.zero_le _, rfl⟩
    case round =>
      obtain ⟨k, hk, rfl, rfl, hle, rfl⟩ := hrel
      by_cases hlt : k < n
      · have hI : (k : Int) < n := by omega
        have kl := cell_old HU1.out (HL2.out k hlt)
        obtain ⟨av, cv, hv⟩ := (HN.out.row k hlt).form
        rw [hv] at kl
        have htk : tot qs2 (k + 1) = tot qs2 k + (qs2 k).length := rfl
        have htn := tot_mono qs2 (show k + 1 ≤ n from hlt)
        have htt := HTOT.out
        obtain ⟨t2, ht2⟩ : ∃ t2, tot qs2 (k + 1) = t2 := ⟨_, rfl⟩
        rw [ht2] at htk
        have HT2 := Lib.hid ht2
        have e9 : IntKind.i64.wrap ((room : Int) - (tot qs2 k : Nat)) = ((room - tot qs2 k : Nat) : Int) := by rw [IntKind.wrap_i64]; omega
        by_cases hcap : t2 ≤ room
        · have e8 : IntKind.i64.wrap ((tot qs2 k : Nat) + ((qs2 k).length : Nat)) = ((t2 : Nat) : Int) := by rw [IntKind.wrap_i64]; omega
          have hdm : (qs2 k).length ≤ room - tot qs2 k := by omega
          generalize room - tot qs2 k = d at *
          generalize (qs2 k).length = m at *
          generalize tot qs2 k = t at *
          have d2 : decide ((m : Int) > d) = false := decide_eq_false (by omega)
          have d3 : decide ((d : Int) < m) = false := decide_eq_false (by omega)
          have d4 : decide (d < m) = false := decide_eq_false (by omega)
          clear hv htk htn htt ht2 hle hdm
          go_wp2_with fail
          go_roundw
          case rel => exact ⟨k + 1, by omega, by go_num, by rw [HT2.out], by rw [HT2.out]; exact hcap, trivial⟩
          case measure => simp [intOf]; omega
        · have hC25 : C = 25 := by rw [← HC.out]; unfold layC; rw [if_pos HRS.out, if_pos (by omega)]
          have HC25 := Lib.hid hC25
          have hdm : room - tot qs2 k < (qs2 k).length := by omega
          generalize room - tot qs2 k = d at *
          generalize (qs2 k).length = m at *
          generalize tot qs2 k = t at *
          have d2 : decide ((m : Int) > d) = true := decide_eq_true (by omega)
          have d3 : decide ((d : Int) < m) = true := decide_eq_true (by omega)
          have d4 : decide (d < m) = true := decide_eq_true (by omega)
          clear hv htk htn htt ht2 hle hdm hcap hC25
          go_wp2_with fail
          go_ret
          rw [HC25.out]
          exact ⟨rfl, fun _ => HU1.out, fun h => absurd h (by decide)⟩
      · obtain rfl : k = n := by omega
        have hC0 : C = 0 := by rw [← HC.out]; unfold layC; rw [if_pos HRS.out, if_neg (by omega)]
        have HC0 := Lib.hid hC0
        clear hC0
        have H1 := Lib.hid (H.out.old HU1.out)
        obtain ⟨cur, b1, b2, b3⟩ := H1.out.bnd
        have hfl : (nums f k).length = k := by unfold nums; rw [vals_len]
        have hfa : ∀ i v, (nums f k)[i]? = some v → i < k ∧ v = .int .u64 (f i : Nat) := fun i v hv => by
          have hi := (List.getElem?_eq_some_iff.1 hv).1
          rw [hfl] at hi
          have := vals_at (fun i => Value.int .u64 (f i : Nat)) hi
          have e : vals (fun i => Value.int .u64 (f i : Nat)) k = nums f k := rfl
          rw [e, hv] at this
          exact ⟨hi, Option.some.inj this⟩
        have hgw1 : ga < w1.heap.size := Nat.lt_of_lt_of_le hgalt (Nat.le_trans hlow HU1.out.size)
        have HFL := Lib.hid hfl
        have HFA := Lib.hid hfa
        have HB1 := Lib.hid b1
        have hcs : cur.size = k := b2
        obtain ⟨fs, hfs⟩ : ∃ fs, nums f k = fs := ⟨_, rfl⟩
        rw [hfs] at HFL HFA
        have HFS := Lib.hid hfs
        clear b1 b3 hfl hfa hfs
        go_upto_region 14 with (refine wpList_copy_own rfl _ _ 38 38 rfl TU Try.underlying38 hsz gb 0 k k ⟨ga, oa, none⟩ k ca rfl rfl cur TU HB1.out fs (by rw [HFL.out]; exact (Nat.min_self k).symm) (fun j v hv => by obtain ⟨hj, rfl⟩ := HFA.out j v hv; rw [add_at]; exact cell_old HU1.out (HFC.out j hj)) (by rw [HFL.out]; omega) (fun v hv => by obtain ⟨i, hi⟩ := List.mem_iff_getElem?.1 hv; obtain ⟨_, rfl⟩ := HFA.out i v hi; rfl) ?_; simp only [Act.put, goInt, List.setIfInBounds_toArray, List.set_cons_succ, List.set_cons_zero])
        obtain ⟨hb2, hu2⟩ := setRow_eq w1 gb (List.take 0 cur.toList ++ (fs ++ List.drop (0 + fs.length) cur.toList)).toArray cur TU HB1.out
        have hcl : (List.take 0 cur.toList ++ (fs ++ List.drop (0 + fs.length) cur.toList)).toArray.size = k := by simp [HFL.out, hcs]
        have hca : ∀ i, i < k → (List.take 0 cur.toList ++ (fs ++ List.drop (0 + fs.length) cur.toList)).toArray[i]? = some (.int .u64 (f i : Nat)) := fun i hi => by
          have h9 : fs[i]? = some (.int .u64 (f i : Nat)) := by rw [← HFS.out]; exact vals_at (fun i => Value.int .u64 (f i : Nat)) hi
          rw [List.getElem?_toArray, List.take_zero, List.nil_append, List.getElem?_append_left (by rw [HFL.out]; exact hi)]
          exact h9
        have H2 := Lib.hid (newB H1.out hb2 hcl hca hu2)
        obtain ⟨w2, hw2⟩ : ∃ w2, w1.setRow gb (List.take 0 cur.toList ++ (fs ++ List.drop (0 + fs.length) cur.toList)).toArray = w2 := ⟨_, rfl⟩
        have HU2 := Lib.hid ((HU1.out.any (SpOf s gq gb k rb rg)).trans hu2 (fun q _ e => .inr (.inr (.inl e))))
        rw [hw2] at H2 HU2 ⊢
        clear k0 k1 k2 k3 hb2 hu2 hcl hca hw2 hcs
        obtain ⟨k0, k1, k2, k3, z0, z1, z2, z3⟩ := cells4 H2.out.blk
        have HEM := Lib.hid (empty_any w2 s gb k room hr1 hrl hnl k1 k2)
        obtain ⟨T, hT⟩ : ∃ T, tot qs2 k = T := ⟨_, rfl⟩
        have HT := Lib.hid hT
        rw [hT] at hle ⊢
        clear hT
        go_wp2_with fail
        refine HEM.out.mono ?_
        rintro e w3 ⟨v3, rfl, rb3, hR3⟩
        obtain ⟨gq3, cq3, rfl⟩ : ∃ g c, v3 = .slice (some ⟨g, 0, none⟩) k c := by
          rcases hR3.row.2 with ⟨_, h0⟩ | ⟨g, c, cur', rfl, _⟩
          · omega
          · exact ⟨g, c, rfl⟩
        obtain ⟨hQ3, hof3⟩ := newQ H2.out hR3 T
        have hu3 : Upd (SpOf s gq gb k rb rg) w ((w3.setCell ⟨s, 0, none⟩ (.slice (some ⟨gq3, 0, none⟩) k cq3)).setCell ⟨s, 3, none⟩ (.int .i64 T)) := ((HU2.out.trans hR3.upd (fun _ _ h => h.elim)).setCell (a := ⟨s, 0, none⟩) (fun _ => .inl rfl) _).setCell (a := ⟨s, 3, none⟩) (fun _ => .inl rfl) _
        have x0 := cell_old hR3.upd k0
        have x3 := cell_old hR3.upd k3
        have y0 := (hR3.upd.frozen 0 H2.out.blk.lt id).trans z0
        have y3 := (hR3.upd.frozen 3 H2.out.blk.lt id).trans z3
        have HQ3 := Lib.hid hQ3
        have HOF := Lib.hid hof3
        have HU3 := Lib.hid hu3
        have hsz2 : w.heap.size ≤ w2.heap.size := HU2.out.size
        clear k0 k1 k2 k3 z0 z1 z2 z3 hQ3 hof3 hu3 hR3 HEM
        go_upto_region 15 with fail
        have hcov : ∀ q', SpOf s gq gb k rb rg q' → w0.heap.size ≤ q' ∧ ¬ A q' := HS.out
        have hAw : ∀ q', A q' → q' < w.heap.size := HAlt.out
        have hst : ∃ rg', SpIn TS TR TE PT TU ((w3.setCell ⟨s, 0, none⟩ (.slice (some ⟨gq3, 0, none⟩) k cq3)).setCell ⟨s, 3, none⟩ (.int .i64 T)) s gq3 gb cq3 k room T rb3 rg' f (fun x => (qcur (upq qs2) 0 0 x).map el) ∧ (∀ q', SpOf s gq3 gb k rb3 rg' q' → w0.heap.size ≤ q' ∧ ¬ A q') ∧ Upd (fun q' => w0.heap.size ≤ q' ∧ ¬ A q') w ((w3.setCell ⟨s, 0, none⟩ (.slice (some ⟨gq3, 0, none⟩) k cq3)).setCell ⟨s, 3, none⟩ (.int .i64 T)) := by
          refine ⟨fun _ => none, by rw [qcur_zero]; exact HQ3.out, fun q' hq => ?_, HU3.out.mono (fun q' _ h => hcov q' h)⟩
          rcases HOF.out q' hq with h | h
          · exact hcov q' h
          · exact ⟨by omega, fun ha => absurd (hAw q' ha) (by omega)⟩
        obtain ⟨w4, hw4⟩ : ∃ w4, (w3.setCell ⟨s, 0, none⟩ (.slice (some ⟨gq3, 0, none⟩) k cq3)).setCell ⟨s, 3, none⟩ (.int .i64 T) = w4 := ⟨_, rfl⟩
        rw [hw4] at hst ⊢
        have HST := Lib.hid hst
        have HAW := Lib.hid hAw
        clear hst hcov hAw hw4 x0 x3 y0 y3 HQ3 HOF HU3
        go_wp2_with fail
        go_loopw [76] (fun iv wr => ∃ i : Nat, i ≤ k ∧ iv = .int .i64 i ∧ ∃ rg', SpIn TS TR TE PT TU wr s gq3 gb cq3 k room T rb3 rg' f (fun x => (qcur (upq qs2) i 0 x).map el) ∧ (∀ q', SpOf s gq3 gb k rb3 rg' q' → w0.heap.size ≤ q' ∧ ¬ A q') ∧ Upd (fun q' => w0.heap.size ≤ q' ∧ ¬ A q') w wr) (fun iv _ => k - (intOf iv).toNat)
        case atStart => exact ⟨0, by omega, rfl, HST.out⟩
        case round =>
          obtain ⟨i, hik, rfl, rg4, hI4, hof4, hu4⟩ := hrel
          obtain ⟨wB, rfl⟩ : ∃ x, x = wr := ⟨_, rfl⟩
          by_cases hlt2 : i < k
          · have hJ : (i : Int) < k := by omega
            have hkeep : ∀ (u : World) (g o : Nat) (v : Value), Upd (fun q' => w0.heap.size ≤ q' ∧ ¬ A q') w u → A g → w.cell? ⟨g, o, none⟩ = some v → u.cell? ⟨g, o, none⟩ = some v := fun u g o v hu hg hc => (hu.cell o (cell_lt hc) (fun h => h.2 hg)).trans hc
            have kl := hkeep wB g2 i _ hu4 (HNA.out g2 (.inl rfl)) (HL2.out i hlt2)
            obtain ⟨av, cv, hv⟩ := (HN.out.row i hlt2).form
            rw [hv] at kl
            obtain ⟨m, hm⟩ : ∃ m, (qs2 i).length = m := ⟨_, rfl⟩
            have hmT : m ≤ T := by rw [← hm, ← HT.out]; exact tot_le qs2 hlt2
            have HM := Lib.hid hm
            have HV := Lib.hid hv
            have HST4 : Hid (∃ rg', SpIn TS TR TE PT TU wB s gq3 gb cq3 k room T rb3 rg' f (fun x => (qcur (upq qs2) i 0 x).map el) ∧ (∀ q', SpOf s gq3 gb k rb3 rg' q' → w0.heap.size ≤ q' ∧ ¬ A q') ∧ Upd (fun q' => w0.heap.size ≤ q' ∧ ¬ A q') w wB) := Lib.hid ⟨rg4, hI4, hof4, hu4⟩
            have HKEEP := Lib.hid hkeep
            rw [hm] at kl
            clear hI4 hof4 hu4 hm hv hkeep
            go_wp2_with fail
            go_loopw [83] (fun jv wr => ∃ j : Nat, j ≤ m ∧ jv = .int .i64 j ∧ ∃ rg', SpIn TS TR TE PT TU wr s gq3 gb cq3 k room T rb3 rg' f (fun x => (qcur (upq qs2) i j x).map el) ∧ (∀ q', SpOf s gq3 gb k rb3 rg' q' → w0.heap.size ≤ q' ∧ ¬ A q') ∧ Upd (fun q' => w0.heap.size ≤ q' ∧ ¬ A q') w wr) (fun jv _ => m - (intOf jv).toNat)
            case atStart => exact ⟨0, by omega, rfl, HST4.out⟩
            case round =>
              obtain ⟨j, hjm, rfl, rg5, hI5, hof5, hu5⟩ := hrel
              obtain ⟨wC, rfl⟩ : ∃ x, x = wr := ⟨_, rfl⟩
              by_cases hlt3 : j < m
              · have hK : (j : Int) < m := by omega
                obtain ⟨e, he⟩ : ∃ e, (qs2 i)[j]? = some e := ⟨(qs2 i)[j]'(by rw [HM.out]; exact hlt3), by simp⟩
                obtain ⟨gi, ci, hv2, _, e0, e1⟩ := (HN.out.row i hlt2).cell he
                rw [HV.out] at hv2
                injection hv2 with hv3 hv4 hv5
                subst hv3 hv5
                clear hv4
                have hgiA : A gi := HNA.out gi (.inr ⟨i, hlt2, by rw [HV.out]; rfl⟩)
                have m0 := HKEEP.out wC gi _ _ hu5 hgiA e0
                have m1 := HKEEP.out wC gi _ _ hu5 hgiA e1
                obtain ⟨r, y⟩ := e
                have hu6 : Upd Nowhere wC (wC.alloc (.cells #[.int .u64 (r : Nat), .int .i64 y] TE)) := (Upd.refl _ _).alloc _
                have H6 := Lib.hid (hI5.old hu6)
                have HU6 := Lib.hid (hu5.trans hu6 (fun _ _ h => h.elim))
                have HOF5 := Lib.hid hof5
                have HE := Lib.hid he
                have hX6 : Blk (wC.alloc (.cells #[.int .u64 (r : Nat), .int .i64 y] TE)) wC.heap.size #[.int .u64 (r : Nat), .int .i64 y] TE := Blk.new _ _ _
                clear hI5 hof5 hu5 hu6 e0 e1 he
                go_upto_region 21 with fail
                obtain ⟨w6, hw6⟩ : ∃ w6, wC.alloc (.cells #[.int .u64 (r : Nat), .int .i64 y] TE) = w6 := ⟨_, rfl⟩
                rw [hw6] at H6 HU6 hX6 ⊢
                obtain ⟨x0, x1, yx0, yx1⟩ := cells2 hX6
                obtain ⟨k0, k1, k2, k3, z0, z1, z2, z3⟩ := cells4 H6.out.blk
                have kp := H6.out.pcell hlt2
                clear hw6 m0 m1
                refine wp_region_tail 8 (by kernel_rfl) (by kernel_rfl) ?_
                simp only [List.take_succ_cons, List.take_zero, List.drop_succ_cons, List.drop_zero]
                repeat (go_big_quiet_step (fail))
                refine wpQuiet_nil ?_
                rintro _ ⟨nq, rfl⟩
                have H7 := Lib.hid (H6.out.drewN nq)
                have hqi : (qcur (upq qs2) i j i) = ((qs2 i).map up).take j := by rw [qcur_at]; rfl
                obtain ⟨fr, len, hPR⟩ := H7.out.ring i hlt2
                rw [hqi] at hPR
                have hput := PairI.put_room (w6.drewN nq) (rb3 i) (rg5 i) room fr len (((qs2 i).map up).take j) ((r : Int), y) hPR (by rw [List.length_take, List.length_map, HM.out]; omega)
                have HPUT := Lib.hid hput
                clear hput hPR
                go_wp2_with fail
                refine HPUT.out.mono ?_
                rintro e w8 ⟨rfl, ht8⟩
                go_wp2_with fail
                refine Stage.out ?_
                go_wp2_with fail
                go_roundw
                case rel =>
                  obtain ⟨g', h8, hof8, hu8⟩ := H7.out.turn hlt2 ht8
                  have he2 : (upq qs2 i)[j]? = some ((r : Int), y) := by unfold upq; rw [List.getElem?_map, HE.out]; rfl
                  have hq8 := qcur_step (upq qs2) i j he2
                  have hq9 : ((qs2 i).map up).take j = (upq qs2 i).take j := rfl
                  rw [hq9] at h8
                  rw [hq8] at h8
                  refine ⟨j + 1, by omega, by go_num, _, h8, fun q' hq => ?_, (HU6.out.drewN nq).trans hu8 (fun q' _ h => HOF5.out q' h)⟩
                  rcases hof8 q' hq with h | h
                  · exact HOF5.out q' h
                  · have hsz : w.heap.size ≤ (w6.drewN nq).heap.size := (HU6.out.drewN nq).size
                    exact ⟨by omega, fun ha => absurd (HAW.out q' ha) (by omega)⟩
                case measure => simp [intOf]; omega
              · obtain rfl : j = m := by omega
                go_wp2_with fail
                go_roundw
                case rel =>
                  refine ⟨i + 1, by omega, by go_num, rg5, ?_, hof5, hu5⟩
                  rw [← qcur_next, show (upq qs2 i).length = j by unfold upq; rw [List.length_map]; exact HM.out]
                  exact hI5
                case measure => simp [intOf]; omega
          · obtain rfl : i = k := by omega
            go_wp2_with fail
            go_ret
            rw [HC0.out, HT.out]
            refine ⟨rfl, fun h => absurd rfl h, fun _ => ⟨⟨gq3, gb, cq3, rb3, rg4, congrQ hI4 (fun x hx => ?_), hof4, Nat.le_trans hlow hu4.size, ⟨fun a b hab hb => rs_le HRS.out a b hab hb, HF64.out⟩, by rw [tot_upq]; exact HT.out, hle⟩, hu4⟩⟩
            unfold qcur
            rw [if_pos hx]
end
end Go.Proofs.Ytopibbaopglggaa.SpI
