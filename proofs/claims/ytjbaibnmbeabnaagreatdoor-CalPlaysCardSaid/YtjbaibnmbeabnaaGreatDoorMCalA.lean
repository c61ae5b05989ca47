/- Ffs8, PoolI8, CalI10, CalPlays, one behind the other. -/
import Derived.Test.YtjbaibnmbeabnaaGreatDoorMFfs
import Derived.Test.YtjbaibnmbeabnaaGreatDoorRange
import Derived.Test.YtjbaibnmbeabnaaGreatDoorCalAllPlain
import Derived.Test.YtjbaibnmbeabnaaGreatDoorMPoolI
import Derived.Test.YtjbaibnmbeabnaaGreatDoorMCalI
import Derived.Test.YtjbaibnmbeabnaaGreatDoorMHeapA
import Derived.Test.YtjbaibnmbeabnaaGreatDoorMadeRow
import Derived.Test.YtjbaibnmbeabnaaGreatDoorMCalLaw
import Derived.Test.YtjbaibnmbeabnaaGreatDoorRef09
import Derived.Test.YtjbaibnmbeabnaaGreatDoorSame11
import Derived.Test.YtjbaibnmbeabnaaGreatDoorOpen
import Derived.Deep.RegionHeld3
import Derived.Deep.DeepCutAuto
namespace Go.Proofs.YtjbaibnmbeabnaaGreatDoor.Ffs
open Go.RowKit Go.Proofs BigFrame
open Wheel (Tab)
open Cal (days)
attribute [local go_sem] Oper.semAt_some
set_option maxHeartbeats 2000000
set_option maxRecDepth 1000000
def cast (l : List Nat) : List Int := l.map (fun (n : Nat) => (n : Int))
theorem days_end {C : Nat → Bool} {N i : Nat} (hi : i ≤ N) (h : Nx C N i none) : days i C = days N C := by
  obtain ⟨d, rfl⟩ := Nat.exists_eq_add_of_le hi
  clear hi
  induction d with
  | zero => rfl
  | succ d ih =>
    rw [ih (fun k h1 h2 => h k h1 (by omega))]
    unfold days
    rw [← Nat.add_assoc, List.range_succ, List.filter_append, List.filter_cons_of_neg (by simp [h (i + d) (by omega) (by omega)])]
    simp
theorem days_next {C : Nat → Bool} {N i j : Nat} (h : Nx C N i (some j)) : days (j + 1) C = days i C ++ [j] := by
  obtain ⟨h1, h2, h3, h4⟩ := h
  have e := days_end (C := C) h1 (show Nx C j i none from fun k a b => h4 k a b)
  unfold days at e ⊢
  rw [List.range_succ, List.filter_append, ← e, List.filter_cons_of_pos h3]
  rfl
theorem days_part {C : Nat → Bool} {N i : Nat} (h : i ≤ N) : ∃ r, days N C = days i C ++ r := by
  obtain ⟨d, rfl⟩ := Nat.exists_eq_add_of_le h
  clear h
  induction d with
  | zero => exact ⟨[], by simp⟩
  | succ d ih =>
    obtain ⟨r, hr⟩ := ih
    unfold days at hr ⊢
    rw [← Nat.add_assoc, List.range_succ, List.filter_append, hr]
    exact ⟨_, List.append_assoc _ _ _⟩
theorem walk_in {A : Nat → Prop} {w0 w : World} {sb lb cap L n : Nat} {g : Nat → Nat} {u : Nat → Nat → Nat} (h : FIn A w0 w sb lb cap L n g u) (hb : Bts L u) (hT : Tab w) {l N : Nat} (hl : l + 1 = L) (hN : 64 * 64 ^ l = N) (hN2 : N ≤ 1000000) (hn : n = 0 → days N (bitOf (u l)) = []) {S : Nat → Prop} (hS : ∀ k, S k → w.heap.size ≤ k) :
    Tells Tryz.prog 68 #[.pointer (some ⟨sb, 0, none⟩)] #[] S (cast (days N (bitOf (u l)))) w := by
  intro lp J W hu0 hJd hY h0
  have HLN := Lib.hid (len_any (h.old hu0))
  have HAB := fun (x : World) (hx : Upd Nowhere w x) (i : Nat) (hi : i ≤ 1000000) => Lib.hid (above_any (h.old hx) hb (hT.old hx id) l i (by omega) hi)
  rw [hN] at HAB
  obtain ⟨c0, _, _, _⟩ := cells2 (h.old hu0).blk
  have hone := h.one
  have e2 : (L : Int) - 1 = (l : Int) := by omega
  obtain ⟨C, hC⟩ : ∃ C, bitOf (u l) = C := ⟨_, rfl⟩
  rw [hC] at HAB hY hn ⊢
  have HY := Lib.hid hY
  have HH := Lib.hid hn
  have H0 : Hid (J (cast (days 0 C)) W) := Lib.hid h0
  clear hY hn h0 hC h hT hl hN
  have HJD := Lib.hid hJd
  clear hJd
  refine callsIn_of_wp Tryz.func68 rfl trivial ?_ rfl
  simp only [Tryz.ntmps68, List.size_toArray, List.length_cons, List.length_nil, Nat.reduceAdd, Nat.reduceSub, Array.replicate_succ, Array.replicate_zero, List.push_toArray, List.append_toArray, List.nil_append, List.cons_append, List.append_nil]
  have hA0 := Lib.hid (HAB W hu0 0 (by omega)).out
  by_cases hn0 : n = 0
  · have n0 : ((n : Int) == 0) = true := by simp; omega
    have HE := Lib.hid (HH.out hn0)
    clear hn0
    gi_wp2_with (refine ⟨trivial, rfl, ?_⟩; gi_at_call 62; refine (callsIn_wide.2 HLN.out).mono ?_; rintro e w' ⟨rfl, rfl⟩)
    refine bodyPost_ret (results_none rfl _ _ _) rfl ?_
    exact ⟨⟨_, rfl⟩, by rw [HE.out]; exact H0.out⟩
  · have n0 : ((n : Int) == 0) = false := by simp; omega
    clear hn0
    gi_wp2_with (first
      | (refine ⟨trivial, rfl, ?_⟩; gi_at_call 62; refine (callsIn_wide.2 HLN.out).mono ?_; rintro e w' ⟨rfl, rfl⟩)
      | (refine ⟨trivial, rfl, ?_⟩; gi_at_call 81; refine (callsIn_wide.2 hA0.out).mono ?_; rintro e w' ⟨⟨r, rfl, hr⟩, rfl⟩))
    have HR := Lib.hid hr
    have HU0 := Lib.hid hu0
    clear hr hu0 c0 hA0 HLN
    gi_loopw [5] (fun v wr => ∃ (i : Nat) (r : Option Nat), v = .int .i64 (toI r) ∧ i ≤ N ∧ Nx C N i r ∧ J (cast (days i C)) wr ∧ Upd Nowhere w wr) (fun v _ => if intOf v < 0 then 0 else N - (intOf v).toNat)
    case atStart => exact ⟨0, r, rfl, Nat.zero_le _, HR.out, H0.out, HU0.out⟩
    case round =>
      obtain ⟨i, r2, rfl, hi, hx, hJ, hu⟩ := hrel
      obtain ⟨wB, rfl⟩ : ∃ x, x = wr := ⟨_, rfl⟩
      clear HR HU0 H0
      cases r2 with
      | none =>
        have et : toI none = -1 := rfl
        rw [et]
        have HJ : Hid (J (cast (days N C)) wB) := Lib.hid (by rw [← days_end hi hx]; exact hJ)
        clear hx hJ hu
        gi_wp2
        go_end0
        exact ⟨⟨_, rfl⟩, HJ.out⟩
      | some j =>
        have et : toI (some j) = (j : Int) := rfl
        rw [et]
        have hjN := hx.2.1
        have hdn := days_next hx
        obtain ⟨fn, tmps, assign, body, hy, hR⟩ := HY.out (cast (days i C)) (j : Int) wB hJ (by
          obtain ⟨r, hr⟩ := days_part (C := C) (show j + 1 ≤ N by omega)
          refine ⟨cast r, ?_⟩
          rw [hr, hdn]
          unfold cast
          simp)
        have d1 : decide ((j : Int) ≥ 0) = true := decide_eq_true (by omega)
        have d2 : decide ((0 : Int) ≤ (j : Int)) = true := decide_eq_true (by omega)
        obtain ⟨j1, hj1⟩ : ∃ x, j + 1 = x := ⟨_, rfl⟩
        have e3 : (j : Int) + 1 = (j1 : Int) := by omega
        have HU := Lib.hid hu
        have HDN := Lib.hid hdn
        have HJ1 := Lib.hid hj1
        clear hx hJ hu hdn hj1
        gi_wp2
        refine ⟨rfl, hR.mono ?_⟩
        rintro e W3 ⟨rfl, hJ3, hB3⟩
        have hu3 : Upd Nowhere w W3 := HU.out.trans hB3 (fun k hk h2 => absurd hk (Nat.not_lt.2 (hS k h2)))
        have hA3 := Lib.hid (HAB W3 hu3 j1 (by omega)).out
        have HJ3 : Hid (J (cast (days (j + 1) C)) W3) := Lib.hid (by rw [HDN.out]; unfold cast at hJ3 ⊢; simpa using hJ3)
        have HU3 := Lib.hid hu3
        clear hJ3 hB3 hu3
        gi_wp2_with (refine ⟨trivial, rfl, ?_⟩; gi_at_call 81; refine (callsIn_wide.2 hA3.out).mono ?_; rintro e w' ⟨⟨r4, rfl, hr4⟩, rfl⟩)
        have HR4 := Lib.hid hr4
        clear hr4
        go_roundw
        case rel => exact ⟨j + 1, r4, rfl, by omega, by rw [HJ1.out]; exact HR4.out, HJ3.out, HU3.out⟩
        case measure =>
          cases r4 with
          | none =>
            show (if (-1 : Int) < 0 then 0 else _) < (if (j : Int) < 0 then 0 else N - (j : Int).toNat)
            rw [if_pos (by omega), if_neg (by omega)]
            omega
          | some k =>
            have h1 := HR4.out.1
            have h2 := HJ1.out
            show (if (k : Int) < 0 then 0 else N - (k : Int).toNat) < (if (j : Int) < 0 then 0 else N - (j : Int).toNat)
            rw [if_neg (by omega), if_neg (by omega)]
            omega
abbrev TI : TypeId := 3
abbrev TIs : TypeId := 74
theorem infoInt : (Tryz.prog.info? TI).map (fun i => (i.zero, i.size, i.bytes)) = some (some (.int .i64 0), 1, 8) := by kernel_rfl
theorem days_len (C : Nat → Bool) (N : Nat) : (days N C).length ≤ N := by
  unfold days
  exact Nat.le_trans (List.length_filter_le _ _) (by simp)
theorem days_nil {C : Nat → Bool} {N : Nat} (h : ∀ i, i < N → C i = false) : days N C = [] := List.filter_eq_nil_iff.2 fun a ha => by rw [h a (List.mem_range.1 ha)]; simp
theorem days_congr {C D : Nat → Bool} {N : Nat} (h : ∀ i, i < N → C i = D i) : days N C = days N D := List.filter_congr fun a ha => h a (List.mem_range.1 ha)
theorem all_any {w : World} {sb N : Nat} {own : Nat → Prop} {B : Nat → Bool} (h : Dy w sb own N B) (hT : Tab w) :
    Calls Tryz.prog 39 #[.pointer (some ⟨sb, 0, none⟩)] w fun e w' => ∃ v, e = .returned v ∧ w'.ownsRow w.heap.size TI 1 v (cast (days N B)).length ((cast (days N B)).map (Value.int .i64)) ∧ Upd Nowhere w w' := by
  have hsz := h.size
  obtain ⟨w0, lb, cap, L, n, g, u, l, hf, hb, hl, hN, hbit, hn, ho⟩ := h
  have hd : days N (bitOf (u l)) = days N B := days_congr hbit
  have HW := Lib.hid (walk_in (S := CS w.heap.size (w.heap.size + 1)) hf hb hT hl hN (by omega) (fun h0 => by
    rw [hd]
    refine days_nil fun i hi => ?_
    cases hB : B i with
    | false => rfl
    | true => have := cnt_pos hi hB; omega) (fun k hk => by rcases hk with rfl | hk <;> omega))
  rw [hd] at HW
  have hlen : (cast (days N B)).length ≤ 262144 := by unfold cast; rw [List.length_map]; exact Nat.le_trans (days_len B N) hsz.2
  obtain ⟨xs, hxs⟩ : ∃ xs, cast (days N B) = xs := ⟨_, rfl⟩
  rw [hxs] at HW hlen ⊢
  obtain ⟨i0, hi, hz0, hz1, hz2⟩ := info_parts infoInt
  clear hf hb hT hl hN hbit hn ho hd hxs hsz
  refine callsIn_wide.1 (callsIn_of_wp_marks (n := 1) Tryz.func39 rfl trivial ?_ rfl)
  simp only [Tryz.ntmps39, List.size_toArray, List.length_cons, List.length_nil, Nat.reduceAdd, Nat.reduceSub, Array.replicate_succ, Array.replicate_zero, List.push_toArray, List.append_toArray, List.nil_append, List.cons_append]
  gi_wp2
  have hU1 : Upd Nowhere w (w.alloc (.cells #[.slice none 0 0] TIs)) := (Upd.refl _ _).alloc _
  refine wp_tells (gf := 68) (first := #[.pointer (some ⟨sb, 0, none⟩)]) (cap := #[]) rfl (enters_of Tryz.func68 (by kernel_rfl) rfl) (HW.out.later hU1) (fun k hk => .inr (by simpa using hk)) rfl
    (fun pre W => Coll w (w.heap.size + 1) w.heap.size TIs TI pre W ∧ w.heap.size + 1 ≤ W.heap.size) (fun pre W o hI => ⟨hI.1.alloc o, Nat.le_trans hI.2 (by simp)⟩) (fun pre W k hI => ⟨hI.1.drewN k, hI.2⟩)
    (fun pre W l o o' hI hl ho hc => ⟨hI.1.put o' (Nat.le_trans hU1.size hl) ho hc, by simpa using hI.2⟩)
    ⟨⟨⟨_, Boxed.new w TIs _, World.ownsRow_nil _ _ _ _⟩, hU1⟩, by simp⟩
    (fun x => { tmps := #[.pointer (some ⟨sb, 0, none⟩), undef, .slice none 0 0, .pointer (some ⟨w.heap.size, 0, none⟩), .int .i64 x, .pointer (some ⟨sb, 0, none⟩), .func (.func 68) #[.pointer (some ⟨sb, 0, none⟩)] #[], .int .i64 x, undef, undef, undef, undef, undef], defers := [] }) ?assign ?body ?done
  case assign =>
    intro l x W K hK
    gi_wp2
    exact hK
  case body =>
    rintro l pre x W ⟨⟨⟨v, hv, hrow⟩, hB⟩, hsz⟩ ⟨r, hr⟩
    have hpl : pre.length + 1 ≤ 262144 := by
      have := congrArg List.length hr
      rw [List.length_append, List.length_cons] at this
      omega
    have hc := hv.cell
    gi_wp2_with (gi_at_builtin; refine wpListIn_append_own _ rfl _ _ TIs rfl (w.heap.size + 1) TI i0 (.int .i64 0) 1 8 Tryz.underlying74 hi hz0 hz1 hz2 rfl (by decide) _ _ _ rfl (hrow.alloc _) ⟨W.heap.size, 0, none⟩ 1 1 [.int .i64 x] rfl rfl (cell_one_new _ _ _) (by simp [Value.oneCell']) (by unfold maxLen; omega) (by omega) (by simp; omega) ?_; intro v' w1 hown' hgrow _; obtain ⟨g', cap', rfl⟩ := ownsRow_succ hown'; obtain ⟨hv1, hk2, hu2, hi2⟩ := coll_push (Nat.le_refl _) (Nat.lt_succ_self _) (by decide) hv hrow hB hown' hgrow; have hc1 := hv1.cell; have hf1 := hv1.frozen)
    have h9 := hu2.size
    simp at h9
    omega
  case done =>
    rintro D W hD ⟨⟨⟨v, hv, hrow⟩, hB⟩, hsz⟩ hK
    have hc := hv.cell
    gi_wp2
    refine ⟨by simp, .inl ⟨_, _, rfl, run_takeDeferred hK, ?_⟩⟩
    exact ⟨_, results_tmp rfl _ _ _, v, rfl, ownsRow_base (ownsRow_putObj hrow _ hK rfl) (Nat.le_succ _), hB.trans (upd_put (S := fun k => k = D) rfl) (fun k hk e => absurd hk (by simp at hD; omega))⟩
end Go.Proofs.YtjbaibnmbeabnaaGreatDoor.Ffs
namespace Go.Proofs.YtjbaibnmbeabnaaGreatDoor.PoolI
open Go.RowKit Go.Proofs BigFrame Pool
open Ffs (cast TI TIs infoInt)
attribute [local go_sem] Oper.semAt_some
set_option maxHeartbeats 4000000
set_option maxRecDepth 1000000
abbrev TPp : TypeId := 50
/-- How many stand ahead of b. -/
def bef (b : Nat) : List Nat → Nat
  | [] => 0
  | a :: t => if a = b then 0 else bef b t + 1
theorem bef_mid {b : Nat} {t : List Nat} : ∀ {pre : List Nat}, (pre ++ b :: t).Nodup → bef b (pre ++ b :: t) = pre.length
  | [], _ => by simp [bef]
  | a :: pre, h => by
    have h1 := List.nodup_cons.1 h
    have h2 : a ≠ b := fun e => h1.1 (by rw [e]; simp)
    show (if a = b then 0 else bef b (pre ++ b :: t) + 1) = _
    rw [if_neg h2, bef_mid h1.2]
    rfl
theorem walk1_in {w : World} {pb qb most Qn : Nat} {cv : Value} {S : PS Int} {F : List Nat} {Q : Nat → List Nat} (h : P w pb cv qb most Qn S) (pl : Pl S Qn F Q none) {q : Nat} (hq : q < Qn) {b1 b2 : Nat} (hb1 : Blk w b1 #[.pointer (some ⟨pb, 0, none⟩)] TPp) (hb2 : Blk w b2 #[.int .i64 (q : Nat)] TI) {A : Nat → Prop} (hA : ∀ k, POf pb qb cv k → ¬ A k) (hA1 : ¬ A b1) (hA2 : ¬ A b2) :
    Tells Tryz.prog 84 #[] #[.pointer (some ⟨b1, 0, none⟩), .pointer (some ⟨b2, 0, none⟩)] A (cast (Q q)) w := by
  intro lp J W hu0 hJd hY h0
  have HF := fun (x : World) (hx : Upd A w x) => Lib.hid (show P x pb cv qb most Qn S from h.kept hx hA)
  have HB1 := fun (x : World) (hx : Upd A w x) => Lib.hid (show x.cell? ⟨b1, 0, none⟩ = some (.pointer (some ⟨pb, 0, none⟩)) from (hb1.kept hx hA1).cellAt (i := 0) rfl)
  have HB2 := fun (x : World) (hx : Upd A w x) => Lib.hid (show x.cell? ⟨b2, 0, none⟩ = some (.int .i64 (q : Nat)) from (hb2.kept hx hA2).cellAt (i := 0) rfl)
  have hu0' := hu0.any A
  have HHS := Lib.hid (has_any (HF W hu0').out hq)
  obtain ⟨k0, k1, -, -⟩ := (HF W hu0').out.qcells hq
  obtain ⟨c0, c1, c2, c3, c4, -⟩ := cells5 (HF W hu0').out.blk
  have hch := pl.qch q hq
  have hnd := pl.qnd q hq
  have htk := pl.qtk q hq
  obtain ⟨l, hl⟩ : ∃ l, Q q = l := ⟨_, rfl⟩
  rw [hl] at hch hnd htk hY ⊢
  obtain ⟨a, ha⟩ : ∃ a, S.hd q = a := ⟨_, rfl⟩
  rw [ha] at hch k0
  have b1c := (HB1 W hu0').out
  have b2c := (HB2 W hu0').out
  have hqI : (q : Int) < (Qn : Int) := by omega
  have HY := Lib.hid hY
  have H0 : Hid (J (cast []) W) := Lib.hid h0
  have HCH := Lib.hid hch
  have HND := Lib.hid hnd
  have HTK := Lib.hid htk
  have HU0 := Lib.hid hu0'
  have HM := Lib.hid h.mst
  have HJD := Lib.hid hJd
  clear h pl hb1 hb2 hA hA1 hA2 hY h0 hch hnd htk hu0 hu0' hl ha hJd
  refine callsIn_of_wp Tryz.func84 rfl trivial ?_ rfl
  simp only [Tryz.ntmps84, List.size_toArray, List.length_cons, List.length_nil, Nat.reduceAdd, Nat.reduceSub, Array.replicate_succ, Array.replicate_zero, List.push_toArray, List.append_toArray, List.nil_append, List.cons_append]
  gi_wp2_with (refine ⟨trivial, rfl, ?_⟩; gi_at_call 60; refine (callsIn_wide.2 HHS.out).mono ?_; rintro e w' ⟨rfl, rfl⟩)
  refine wpIn_wide.2 ?_
  go_quiet (fail)
  have HJ0 : Hid (J (cast []) (W.drewN nq)) := Lib.hid (HJD.out _ _ nq H0.out)
  have HUW := Lib.hid (HU0.out.drewN nq)
  clear k0 k1 c0 c1 c2 c3 c4 b1c b2c HHS H0 HU0
  generalize W.drewN nq = W1 at *
  gi_wp2
  gi_loopw [4] (fun v wr => ∃ (pre rest : List Nat) (b : Int), v = .int .i32 b ∧ l = pre ++ rest ∧ Ch S.nx b rest ∧ J (cast pre) wr ∧ Upd A w wr) (fun v _ => if intOf v < 0 then 0 else l.length - bef (intOf v).toNat l)
  case atStart => exact ⟨[], l, a, rfl, rfl, HCH.out, HJ0.out, HUW.out⟩
  case round =>
    obtain ⟨pre, rest, b, rfl, hl, hc, hJ, hu⟩ := hrel
    obtain ⟨wB, rfl⟩ : ∃ x, x = wr := ⟨_, rfl⟩
    clear HJ0 HUW HCH
    cases rest with
    | nil =>
      obtain rfl : b = -1 := hc
      have HJ2 : Hid (J (cast l) wB) := Lib.hid (by rw [hl, List.append_nil]; exact hJ)
      clear hl hJ hu
      gi_wp2
      go_end0
      exact ⟨⟨_, rfl⟩, HJ2.out⟩
    | cons i t =>
      obtain ⟨rfl, hct⟩ := hc
      have hil : i ∈ l := by rw [hl]; simp
      obtain ⟨him, hitk, _⟩ := HTK.out i hil
      have hmm := HM.out
      obtain ⟨fn, tmps, assign, body, hy, hR⟩ := HY.out (cast pre) (i : Int) wB hJ ⟨cast t, by rw [hl]; unfold Ffs.cast; simp⟩
      have d1 : ((i : Int) != -1) = true := by simp
      have d2 : ((i : Int) == -1) = false := by simp
      have e1 : IntKind.i64.wrap (i : Int) = (i : Int) := by rw [IntKind.wrap_i64]; omega
      have HL := Lib.hid hl
      have HCT := Lib.hid hct
      have HU := Lib.hid hu
      have HIM := Lib.hid him
      clear hl hct hJ hu hil hitk
      gi_wp2
      refine ⟨rfl, hR.mono ?_⟩
      rintro e W3 ⟨rfl, hJ3, hB3⟩
      have hu3 := HU.out.trans hB3 (fun _ _ h => h)
      have hP3 := (HF W3 hu3).out
      obtain ⟨g, c, hcv, hcc⟩ := hP3.arr (by omega)
      obtain ⟨c0, -⟩ := cells5 hP3.blk
      subst hcv
      obtain ⟨-, k1, -⟩ := hP3.cells him
      have b1c := (HB1 W3 hu3).out
      obtain ⟨m, hm⟩ : ∃ m, S.m = m := ⟨_, rfl⟩
      rw [hm] at c0 him
      have himI : (i : Int) < (m : Int) := by omega
      obtain ⟨nx, hnx⟩ : ∃ x, S.nx i = x := ⟨_, rfl⟩
      rw [hnx] at k1
      have HJ3 : Hid (J (cast (pre ++ [i])) W3) := Lib.hid (by unfold Ffs.cast at hJ3 ⊢; simpa using hJ3)
      have HU3 := Lib.hid hu3
      have HNX := Lib.hid hnx
      clear hJ3 hB3 hu3 hP3 hcc hnx hm
      gi_wp2
      go_roundw
      case rel => exact ⟨pre ++ [i], t, nx, rfl, by rw [HL.out]; simp, by rw [← HNX.out]; exact HCT.out, HJ3.out, HU3.out⟩
      case measure =>
        have hlen : l.length = pre.length + t.length + 1 := by rw [HL.out]; simp; omega
        have h1 : bef i l = pre.length := by have h2 := HND.out; rw [HL.out] at h2 ⊢; exact bef_mid h2
        show (if nx < 0 then 0 else l.length - bef nx.toNat l) < (if (i : Int) < 0 then 0 else l.length - bef (i : Int).toNat l)
        rw [if_neg (show ¬ (i : Int) < 0 by omega), Int.toNat_natCast, h1]
        by_cases hn : nx < 0
        · rw [if_pos hn]; omega
        · rw [if_neg hn]
          have hct := HCT.out
          rw [HNX.out] at hct
          cases t with
          | nil => have h3 : nx = -1 := hct; omega
          | cons j t2 =>
            obtain ⟨h3, _⟩ := hct
            have h4 : bef j l = (pre ++ [i]).length := by
              have h2 := HND.out
              have h5 : l = (pre ++ [i]) ++ j :: t2 := by rw [HL.out]; simp
              rw [h5] at h2 ⊢
              exact bef_mid h2
            rw [h3, Int.toNat_natCast, h4, List.length_append]
            simp only [List.length_cons, List.length_nil] at hlen ⊢
            omega
theorem walk_any (pb q : Nat) (w : World) :
    Calls Tryz.prog 69 #[.pointer (some ⟨pb, 0, none⟩), .int .i64 (q : Nat)] w fun e w' => e = .returned (.func (.func 84) #[] #[.pointer (some ⟨w.heap.size, 0, none⟩), .pointer (some ⟨w.heap.size + 1, 0, none⟩)]) ∧ w' = (w.alloc (.cells #[.pointer (some ⟨pb, 0, none⟩)] TPp)).alloc (.cells #[.int .i64 (q : Nat)] TI) := by
  go_enter Tryz.func69, Tryz.ntmps69
  go_wp2_with fail
  go_ret
  exact ⟨rfl, rfl⟩
theorem nodup_le : ∀ (m : Nat) {l : List Nat}, l.Nodup → (∀ a ∈ l, a < m) → l.length ≤ m
  | 0, l, _, h => by
    cases l with
    | nil => exact Nat.le_refl _
    | cons a t => have := h a (List.mem_cons_self ..); omega
  | m + 1, l, hn, h => by
    by_cases hm : m ∈ l
    · have h1 := nodup_le m (hn.erase m) (fun a ha => by
        have h2 := (List.Nodup.mem_erase_iff hn).1 ha
        have := h a h2.2
        have := h2.1
        omega)
      rw [List.length_erase_of_mem hm] at h1
      omega
    · have h1 := nodup_le m hn (fun a ha => by
        have := h a ha
        have : a ≠ m := fun e => hm (e ▸ ha)
        omega)
      omega
/-- The handles of a queue. -/
theorem queue_any {w : World} {pb qb most Qn : Nat} {cv : Value} {S : PS Int} {F : List Nat} {Q : Nat → List Nat} (h : P w pb cv qb most Qn S) (pl : Pl S Qn F Q none) {q : Nat} (hq : q < Qn) :
    Calls Tryz.prog 40 #[.pointer (some ⟨pb, 0, none⟩), .int .i64 (q : Nat)] w fun e w' => ∃ v, e = .returned v ∧ w'.ownsRow w.heap.size TI 1 v (cast (Q q)).length ((cast (Q q)).map (Value.int .i64)) ∧ Upd Nowhere w w' := by
  obtain ⟨w2, hw2⟩ : ∃ w2, ((w.alloc (.cells #[.slice none 0 0] TIs)).alloc (.cells #[.pointer (some ⟨pb, 0, none⟩)] TPp)).alloc (.cells #[.int .i64 (q : Nat)] TI) = w2 := ⟨_, rfl⟩
  obtain ⟨B, hB⟩ : ∃ B, w.heap.size = B := ⟨_, rfl⟩
  have hU1 : Upd Nowhere w w2 := by rw [← hw2]; exact (((Upd.refl _ _).alloc _).alloc _).alloc _
  have hsz : w2.heap.size = B + 3 := by rw [← hw2]; simp [hB]
  have hx0 : Boxed w2 B TIs (.slice none 0 0) := by rw [← hw2, ← hB]; exact ((Boxed.new w TIs _).alloc _).alloc _
  have hx1 : Blk w2 (B + 1) #[.pointer (some ⟨pb, 0, none⟩)] TPp := by
    rw [← hw2, ← hB]
    have h9 := (Blk.new (w.alloc (.cells #[.slice none 0 0] TIs)) #[.pointer (some ⟨pb, 0, none⟩)] TPp).alloc (.cells #[.int .i64 (q : Nat)] TI)
    rw [World.size_alloc] at h9
    exact h9
  have hx2 : Blk w2 (B + 2) #[.int .i64 (q : Nat)] TI := by
    rw [← hw2, ← hB]
    have h9 := Blk.new ((w.alloc (.cells #[.slice none 0 0] TIs)).alloc (.cells #[.pointer (some ⟨pb, 0, none⟩)] TPp)) #[.int .i64 (q : Nat)] TI
    rw [World.size_alloc, World.size_alloc] at h9
    exact h9
  have HW := Lib.hid (walk1_in (A := CS B (B + 3)) (h.old hU1) pl hq hx1 hx2 (fun k hk hs => by
    have := h.lts hk
    rcases hs with rfl | hs <;> omega) (fun hs => by rcases hs with hs | hs <;> omega) (fun hs => by rcases hs with hs | hs <;> omega))
  have hlen : (cast (Q q)).length ≤ 4096 := by
    have h2 := nodup_le S.m (pl.qnd q hq) (fun a ha => (pl.qtk q hq a ha).1)
    unfold Ffs.cast
    rw [List.length_map]
    have := h.mst
    omega
  obtain ⟨xs, hxs⟩ : ∃ xs, cast (Q q) = xs := ⟨_, rfl⟩
  rw [hxs] at HW hlen ⊢
  obtain ⟨i0, hi, hz0, hz1, hz2⟩ := info_parts infoInt
  have HWK := Lib.hid (walk_any pb q (w.alloc (.cells #[.slice none 0 0] TIs)))
  clear h pl hq hxs
  refine callsIn_wide.1 (callsIn_of_wp_marks (n := 1) Tryz.func40 rfl trivial ?_ rfl)
  simp only [Tryz.ntmps40, List.size_toArray, List.length_cons, List.length_nil, Nat.reduceAdd, Nat.reduceSub, Array.replicate_succ, Array.replicate_zero, List.push_toArray, List.append_toArray, List.nil_append, List.cons_append]
  gi_wp2_with (refine ⟨trivial, ?_⟩; gi_at_call 69; refine (callsIn_wide.2 HWK.out).mono ?_; rintro e w' ⟨rfl, rfl⟩)
  refine wp_tells (gf := 84) (first := #[]) (cap := #[.pointer (some ⟨B + 1, 0, none⟩), .pointer (some ⟨B + 2, 0, none⟩)]) rfl (enters_of Tryz.func84 (by kernel_rfl) rfl) HW.out (fun k hk => .inr (by omega)) rfl
    (fun pre W => Coll w (B + 3) B TIs TI pre W ∧ B + 3 ≤ W.heap.size) (fun pre W o hI => ⟨hI.1.alloc o, Nat.le_trans hI.2 (by simp)⟩) (fun pre W k hI => ⟨hI.1.drewN k, hI.2⟩)
    (fun pre W l o o' hI hl ho hc => ⟨hI.1.put o' (by omega) ho hc, by simpa using hI.2⟩)
    ⟨⟨⟨_, hx0, World.ownsRow_nil _ _ _ _⟩, hU1⟩, by omega⟩
    (fun x => { tmps := #[.pointer (some ⟨pb, 0, none⟩), .int .i64 (q : Nat), undef, undef, .slice none 0 0, .pointer (some ⟨B, 0, none⟩), .int .i64 x, .pointer (some ⟨pb, 0, none⟩), .int .i64 (q : Nat), .func (.func 84) #[] #[.pointer (some ⟨B + 1, 0, none⟩), .pointer (some ⟨B + 1 + 1, 0, none⟩)], .int .i64 x, undef, undef, undef, undef, undef], defers := [] }) ?assign ?body ?done
  case assign =>
    intro l x W K hK
    gi_wp2
    exact hK
  case body =>
    rintro l pre x W ⟨⟨⟨v, hv, hrow⟩, hu⟩, hsW⟩ ⟨r, hr⟩
    have hpl : pre.length + 1 ≤ 4096 := by
      have := congrArg List.length hr
      rw [List.length_append, List.length_cons] at this
      omega
    have hc := hv.cell
    gi_wp2_with (gi_at_builtin; refine wpListIn_append_own _ rfl _ _ TIs rfl (B + 3) TI i0 (.int .i64 0) 1 8 Tryz.underlying74 hi hz0 hz1 hz2 rfl (by decide) _ _ _ rfl (hrow.alloc _) ⟨W.heap.size, 0, none⟩ 1 1 [.int .i64 x] rfl rfl (cell_one_new _ _ _) (by simp [Value.oneCell']) (by unfold maxLen; omega) (by omega) (by simp; omega) ?_; intro v' w1 hown' hgrow _; obtain ⟨g', cap', rfl⟩ := ownsRow_succ hown'; obtain ⟨hv1, hk2, hu2, hi2⟩ := coll_push (Nat.le_of_eq hB) (show B < B + 3 by omega) (by decide) hv hrow hu hown' hgrow; have hc1 := hv1.cell; have hf1 := hv1.frozen)
    have h9 := hu2.size
    simp at h9
    omega
  case done =>
    rintro D W hD ⟨⟨⟨v, hv, hrow⟩, hu⟩, hsW⟩ hK
    have hc := hv.cell
    gi_wp2
    refine ⟨by simp, .inl ⟨_, _, rfl, run_takeDeferred hK, ?_⟩⟩
    exact ⟨_, results_tmp rfl _ _ _, v, rfl, ownsRow_base (ownsRow_putObj hrow _ hK rfl) (by omega), hu.trans (upd_put (S := fun k => k = D) rfl) (fun k hk e => absurd hk (by omega))⟩
/-- What waits in a queue: its handles, and what each has. -/
theorem q_queue {w : World} {pb most Qn n : Nat} {own : Nat → Prop} {X : Nat → List Int} (h : Pq w pb own most Qn n X) {q : Nat} (hq : q < Qn) : ∃ hs : List Nat, hs.length = (X q).length ∧ (∀ (k i : Nat), hs[k]? = some i → ∃ x : Int, (X q)[k]? = some x ∧ Pa w pb i x) ∧ hs.length ≤ 4096 ∧
    ∀ u, Upd Nowhere w u → Calls Tryz.prog 40 #[.pointer (some ⟨pb, 0, none⟩), .int .i64 (q : Nat)] u fun e w' => ∃ v, e = .returned v ∧ w'.ownsRow u.heap.size TI 1 v hs.length (hs.map (fun (i : Nat) => Value.int .i64 i)) ∧ Upd Nowhere u w' := by
  obtain ⟨cv, qb, ⟨S, F, Q, hp, h1, pl, hX⟩, ho⟩ := h
  have e : X q = (Q q).map S.x := (hX q hq).symm
  refine ⟨Q q, by rw [e, List.length_map], fun k i hk => ?_, ?_, fun u hu => ?_⟩
  · have hi := pl.qtk q hq i (List.mem_of_getElem? hk)
    exact ⟨S.x i, by rw [e, List.getElem?_map, hk]; rfl, ⟨cv, qb, most, Qn, ⟨S, hp, hi.1, hi.2.1, rfl⟩⟩⟩
  · have := nodup_le S.m (pl.qnd q hq) (fun a ha => (pl.qtk q hq a ha).1)
    have := hp.mst
    omega
  · refine (queue_any (hp.old hu) pl hq).mono ?_
    rintro e w' ⟨v, rfl, ho, hu'⟩
    unfold Ffs.cast at ho
    rw [List.length_map, List.map_map] at ho
    exact ⟨v, rfl, ho, hu'⟩
end Go.Proofs.YtjbaibnmbeabnaaGreatDoor.PoolI
namespace Go.Proofs.YtjbaibnmbeabnaaGreatDoor.CalI
open Go.RowKit Go.Proofs BigFrame Cal
open Wheel (Tab)
open Ffs (Dy d_size TI TIs infoInt)
open HeapI (q_all TIt infoIt)
open PoolI (Pq Pa p_get q_queue)
set_option maxHeartbeats 4000000
set_option maxRecDepth 1000000
theorem turn_mem {N f q : Nat} {D : Nat → Bool} (h : q ∈ turnD N f D) : q < N ∧ D q = true := by
  unfold turnD days at h
  rcases List.mem_append.1 h with h | h
  · have h1 := List.mem_filter.1 (List.mem_filter.1 h).1
    exact ⟨List.mem_range.1 h1.1, h1.2⟩
  · have h1 := List.mem_filter.1 (List.mem_filter.1 h).1
    exact ⟨List.mem_range.1 h1.1, h1.2⟩
theorem pcs_app (l m : List (Nat × Int)) : pcs (l ++ m) = pcs l ++ pcs m := by
  induction l with
  | nil => rfl
  | cons a t ih => show Value.int .u64 _ :: Value.int .i64 _ :: pcs (t ++ m) = _; rw [ih]; rfl
theorem pcs_one : ∀ (l : List (Nat × Int)), ∀ u ∈ pcs l, u.oneCell' = true
  | [], u, hu => by cases hu
  | a :: t, u, hu => by
    have hu : u ∈ Value.int .u64 (a.1 : Nat) :: Value.int .i64 a.2 :: pcs t := hu
    rcases List.mem_cons.1 hu with rfl | hu
    · rfl
    · rcases List.mem_cons.1 hu with rfl | hu
      · rfl
      · exact pcs_one t u hu
theorem filt_take {P : Nat → Bool} {l : List Nat} {k q : Nat} (h : l[k]? = some q) : (l.take (k + 1)).filter P = (l.take k).filter P ++ if P q = true then [q] else [] := by
  rw [List.take_add_one, h, List.filter_append]
  congr 1
  show [q].filter P = _
  split
  · rename_i e; rw [List.filter_cons_of_pos e]; rfl
  · rename_i e; rw [List.filter_cons_of_neg e]; rfl
theorem filt_le (P : Nat → Bool) (l : List Nat) (k : Nat) : ((l.take k).filter P).length ≤ l.length := Nat.le_trans (List.length_filter_le _ _) (by rw [List.length_take]; omega)
/-- What has been told when j days are over. -/
def outJ (N base f : Nat) (X : Nat → List Int) (B : List (Nat × Int)) (od : List Nat) (j : Nat) : List (Nat × Int) := B ++ (od.take j).flatMap (dayl N base f X)
theorem outJ_next {N base f j q : Nat} {X : Nat → List Int} {B : List (Nat × Int)} {od : List Nat} (h : od[j]? = some q) : outJ N base f X B od (j + 1) = outJ N base f X B od j ++ dayl N base f X q := by
  unfold outJ
  rw [List.take_add_one, h, List.flatMap_append, List.append_assoc]
  simp
theorem day_part {N base f j q : Nat} {X : Nat → List Int} {od : List Nat} {W : List (Nat × Int)} (h : od[j]? = some q) (hW : od.flatMap (dayl N base f X) = W) : ((od.take j).flatMap (dayl N base f X)).length + (dayl N base f X q).length ≤ W.length ∧ ∀ a ∈ dayl N base f X q, a ∈ W := by
  have hlt : j < od.length := by
    rcases Nat.lt_or_ge j od.length with h' | h'
    · exact h'
    · rw [List.getElem?_eq_none h'] at h; cases h
  have e : od = od.take j ++ q :: od.drop (j + 1) := by
    rw [List.getElem?_eq_getElem hlt] at h
    rw [← Option.some.inj h, ← List.drop_eq_getElem_cons hlt, List.take_append_drop]
  have e2 : W = (od.take j).flatMap (dayl N base f X) ++ (dayl N base f X q ++ (od.drop (j + 1)).flatMap (dayl N base f X)) := by
    rw [← hW]
    conv => lhs; rw [e]
    rw [List.flatMap_append, List.flatMap_cons]
  rw [e2]
  refine ⟨by rw [List.length_append, List.length_append]; omega, fun a ha => List.mem_append_right _ (List.mem_append_left _ ha)⟩
theorem all_emp {w : World} {own : Nat → Prop} {cb sb pb bb ab room base N n c : Nat} {X : Nat → List Int} {B W R : List (Nat × Int)} (h : StP w own cb sb pb bb ab room base N n c X B W R []) :
    Calls Tryz.prog 15 #[.pointer (some ⟨cb, 0, none⟩)] w fun e w' => ∃ v, e = .returned v ∧ PRow TIt w.heap.size w' v [] ∧ Upd Nowhere w w' := by
  have HL := Lib.hid (st_len h)
  clear h
  go_enter Tryz.func15, Tryz.ntmps15
  go_wp2_with fail
  refine (HL.out).mono ?_
  rintro e w' ⟨rfl, k, rfl⟩
  go_wp2_with fail
  go_ret
  exact ⟨_, rfl, PRow.nil _ _ _, (Upd.refl _ _).drewN k⟩
theorem all_full {w : World} {own : Nat → Prop} {cb sb pb bb ab room base N n c : Nat} {X : Nat → List Int} {B W R M : List (Nat × Int)} (h : StP w own cb sb pb bb ab room base N n c X B W R M) (hT : Tab w) (hM : 0 < M.length) :
    Calls Tryz.prog 15 #[.pointer (some ⟨cb, 0, none⟩)] w fun e w' => ∃ v, e = .returned v ∧ PRow TIt w.heap.size w' v M ∧ Upd Nowhere w w' := by
  have HL := Lib.hid (st_len h)
  obtain ⟨o1, o2, o3, o4, hb, hd, hp, hB, hR⟩ := parts h.sep
  have hN := hd.size
  have hN0 : 0 < N := by omega
  obtain ⟨f, hf⟩ : ∃ f, base % N = f := ⟨_, rfl⟩
  have hfN : f < N := by rw [← hf]; exact Nat.mod_lt _ hN0
  have hwin := win_all (D := ne X) h.cm.win h.cm.wris hf hN0 (fun q hq => ne_false hq)
  have hMe := h.cm.eq
  have hMl := h.len
  have hr2 := h.r2
  have hrk := h.rks
  have HB := fun (u : World) (hu : Upd Nowhere w u) => Lib.hid (q_all (hB.kept hu (fun _ _ h => h)))
  have HR := fun (u : World) (hu : Upd Nowhere w u) => Lib.hid (q_all (hR.kept hu (fun _ _ h => h)))
  have HDY := fun (u : World) (hu : Upd Nowhere w u) => Lib.hid (day_any (hb.kept hu id) (hd.kept hu (fun _ _ h => h)) base)
  rw [hf] at HDY
  have HSZ := fun (u : World) (hu : Upd Nowhere w u) => Lib.hid (d_size (hd.kept hu (fun _ _ h => h)))
  have HAL := fun (u : World) (hu : Upd Nowhere w u) => Lib.hid (Ffs.all_any (hd.kept hu (fun _ _ h => h)) (hT.old hu id))
  have HQ := fun (q : Nat) (hq : q < N) => Lib.hid (q_queue hp hq)
  have HCB := fun (u : World) (hu : Upd Nowhere w u) => Lib.hid (cells6 (hb.kept hu id))
  obtain ⟨m, hm⟩ : ∃ m, M.length = m := ⟨_, rfl⟩
  rw [hm] at HL hM hMl
  have hz : ((m : Int) == 0) = false := by simp; omega
  obtain ⟨c0, c1, c2, c3, c4, c5, -⟩ := (HCB w (Upd.refl _ _)).out
  obtain ⟨i0, gi, gz0, gz1, gz2⟩ := info_parts infoInt
  obtain ⟨j0, gj, jz0, jz1, jz2⟩ := info_parts infoIt
  have HWN := Lib.hid hwin
  have HME := Lib.hid hMe
  have HMM := Lib.hid hm
  have HRK := Lib.hid hrk
  clear h hT hb hd hp hB hR hf hwin hMe hm hrk
  go_enter Tryz.func15, Tryz.ntmps15
  go_wp2_with fail
  refine (HL.out).mono ?_
  rintro e w1 ⟨rfl, k1, rfl⟩
  have hu1 : Upd Nowhere w (w.drewN k1) := (Upd.refl _ _).drewN k1
  have HB1 := Lib.hid (HB _ hu1).out
  obtain ⟨d0, d1, d2, d3, d4, d5, -⟩ := (HCB _ hu1).out
  clear c0 c1 c2 c3 c4 c5 HL HB
  generalize w.drewN k1 = w1 at *
  go_wp2_with fail
  refine (HB1.out).mono ?_
  rintro e w2 ⟨v3, rfl, hP2, hu2⟩
  have hm2 := m_more (Made.start w |>.old hu1) hP2 hu2
  have HM2 := Lib.hid hm2
  have hu2' := hu1.trans hu2 (fun _ _ h => h)
  have HD2 := Lib.hid (HDY _ hu2').out
  obtain ⟨c0, c1, c2, c3, c4, c5, -⟩ := (HCB _ hu2').out
  clear d0 d1 d2 d3 d4 d5 HB1 hP2 hu2 hm2 hu1 HDY
  go_wp2_with fail
  refine (HD2.out).mono ?_
  rintro e w' ⟨rfl, k3, rfl⟩
  have hu3 : Upd Nowhere w (w2.drewN k3) := hu2'.drewN k3
  have HM3 := Lib.hid (HM2.out.old ((Upd.refl Nowhere w2).drewN k3))
  have HS3 := Lib.hid (HSZ _ hu3).out
  clear HD2 HM2 hu2'
  obtain ⟨d0, d1, d2, d3, d4, d5, -⟩ := (HCB _ hu3).out
  clear c0 c1 c2 c3 c4 c5
  generalize w2.drewN k3 = w3 at *
  go_wp2_with fail
  refine (HS3.out).mono ?_
  rintro e w' ⟨rfl, k4, rfl⟩
  have hu4 : Upd Nowhere w (w3.drewN k4) := hu3.drewN k4
  have HM4 := Lib.hid (HM3.out.old ((Upd.refl Nowhere w3).drewN k4))
  have HA4 := Lib.hid (HAL _ hu4).out
  clear HS3 HM3 hu3 HAL HSZ
  obtain ⟨c0, c1, c2, c3, c4, c5, -⟩ := (HCB _ hu4).out
  clear d0 d1 d2 d3 d4 d5
  generalize w3.drewN k4 = w4 at *
  go_wp2_with fail
  refine (HA4.out).mono ?_
  rintro e w5 ⟨v40, rfl, hD5, hu5⟩
  have hD5' : w5.ownsRow w4.heap.size TI 1 v40 (days N (ne X)).length (rowN (days N (ne X))) := by
    unfold Ffs.cast at hD5
    rw [List.length_map, List.map_map] at hD5
    exact hD5
  obtain ⟨ds, hds⟩ : ∃ ds, days N (ne X) = ds := ⟨_, rfl⟩
  have hdl : ds.length ≤ 262144 := by rw [← hds]; exact Nat.le_trans (Ffs.days_len _ _) hN.2
  rw [hds] at hD5'
  have HDS := Lib.hid hds
  have hm5 := m_nil (m_nil (m_more HM4.out hD5' hu5) TI 1) TI 1
  obtain ⟨a40, c40, hv40⟩ := row_form (m_own hm5 mem2)
  subst hv40
  obtain ⟨nd, hnd⟩ : ∃ nd, ds.length = nd := ⟨_, rfl⟩
  rw [hnd] at hdl hm5 ⊢
  have HND := Lib.hid hnd
  have HM5 := Lib.hid hm5
  clear HA4 HM4 hD5 hD5' hu5 hds hm5 hnd c0 c1 c2 c3 c4 c5 hu4
  go_wp2_with fail
  go_loopw [6, 7, 42] (fun v6 v7 iv wr => ∃ k : Nat, iv = .int .i64 k ∧ k ≤ nd ∧ Made w wr [rowW TI 1 v6 ((ds.take k).filter (fun q => decide (f ≤ q))).length (rowN ((ds.take k).filter (fun q => decide (f ≤ q)))), rowW TI 1 v7 ((ds.take k).filter (fun q => decide (q < f))).length (rowN ((ds.take k).filter (fun q => decide (q < f)))), rowW TI 1 (.slice a40 nd c40) nd (rowN ds), rowW TIt 2 v3 B.length (pcs B)]) (fun _ _ iv _ => nd - (intOf iv).toNat)
  case atStart => exact ⟨0, rfl, Nat.zero_le _, HM5.out⟩
  case round =>
    obtain ⟨k, rfl, hk, hMr⟩ := hrel
    obtain ⟨wB, rfl⟩ : ∃ x, x = wr := ⟨_, rfl⟩
    clear HM5
    by_cases hlt : k < nd
    · have hI : (k : Int) < (nd : Int) := by omega
      obtain ⟨g, cg, he⟩ := m_arr hMr mem2 (by omega)
      injection he with he1 he2 he3
      subst he1
      subst he3
      clear he2
      obtain ⟨q, hq⟩ : ∃ q, ds[k]? = some q := ⟨ds[k]'(by rw [HND.out]; exact hlt), by simp⟩
      have kq := m_cell hMr mem2 (rowN_at hq)
      have ho6 := m_own hMr mem0
      have ho7 := m_own hMr mem1
      by_cases hc : f ≤ q
      · have q1 : decide ((q : Int) ≥ (f : Int)) = true := decide_eq_true (by omega)
        have q2 : decide (f ≤ q) = true := decide_eq_true hc
        obtain ⟨a6, c6, hv6⟩ := row_form ho6
        obtain ⟨m6, hm6⟩ : ∃ y, ((ds.take k).filter (fun q => decide (f ≤ q))).length = y := ⟨_, rfl⟩
        rw [hm6] at hv6
        subst hv6
        have hml := filt_le (fun q => decide (f ≤ q)) ds k
        rw [hm6, HND.out] at hml
        have HMX := Lib.hid hm6
        rw [hm6] at ho6 hMr
        have HO := Lib.hid ho6
        have HMR := Lib.hid hMr
        have e6 : (ds.take (k + 1)).filter (fun q => decide (f ≤ q)) = (ds.take k).filter (fun q => decide (f ≤ q)) ++ [q] := (filt_take hq).trans (by congr 1; exact if_pos (decide_eq_true hc))
        have e7 : (ds.take (k + 1)).filter (fun q => decide (q < f)) = (ds.take k).filter (fun q => decide (q < f)) ++ [] := (filt_take hq).trans (by congr 1; exact if_neg (by simpa using hc))
        have E6 := Lib.hid e6
        have E7 := Lib.hid e7
        clear hMr ho6 ho7 hm6 e6 e7 hq
        go_wp2_with (at_builtin; go_loud (refine wpList_push rfl _ _ TIs rfl 0 TI i0 (.int .i64 0) 1 8 Tryz.underlying74 gi gz0 gz1 gz2 rfl (by decide) (by decide) (.slice a6 m6 c6) m6 (rowN ((ds.take k).filter (fun q => decide (f ≤ q)))) rfl (ownsRow_upd HO.out ((Upd.refl Nowhere wB).alloc _) (fun _ _ h => h)) wB.heap.size 1 [.int .i64 (q : Nat)] rfl rfl (new_cells wB #[.int .i64 (q : Nat)] _) (by simp [Value.oneCell']) (by omega) (Nat.zero_le _) ?_; intro v9 w9 ho9 hu9 hn9; have HF := Lib.hid (m_row [] _ HMR.out ((Upd.refl Nowhere wB).alloc _) ho9 hu9 hn9); clear ho9 hu9 hn9))
        go_roundw
        case rel => exact ⟨k + 1, by first | rfl | go_num, by omega, by rw [E6.out, E7.out, List.length_append, List.length_append, rowN_app, rowN_app, HMX.out]; simpa [show rowN [q] = [Value.int .i64 (q : Nat)] from rfl, show rowN [] = [] from rfl] using HF.out⟩
        case measure => simp [intOf]; omega
      · have hc : q < f := by omega
        have q1 : decide ((q : Int) ≥ (f : Int)) = false := decide_eq_false (by omega)
        have q2 : decide (f ≤ q) = false := decide_eq_false (by omega)
        obtain ⟨a7, c7, hv7⟩ := row_form ho7
        obtain ⟨m7, hm7⟩ : ∃ y, ((ds.take k).filter (fun q => decide (q < f))).length = y := ⟨_, rfl⟩
        rw [hm7] at hv7
        subst hv7
        have hml := filt_le (fun q => decide (q < f)) ds k
        rw [hm7, HND.out] at hml
        have HMX := Lib.hid hm7
        rw [hm7] at ho7 hMr
        have HO := Lib.hid ho7
        have HMR := Lib.hid hMr
        have e6 : (ds.take (k + 1)).filter (fun q => decide (f ≤ q)) = (ds.take k).filter (fun q => decide (f ≤ q)) ++ [] := (filt_take hq).trans (by congr 1; exact if_neg (by simpa using hc))
        have e7 : (ds.take (k + 1)).filter (fun q => decide (q < f)) = (ds.take k).filter (fun q => decide (q < f)) ++ [q] := (filt_take hq).trans (by congr 1; exact if_pos (decide_eq_true hc))
        have E6 := Lib.hid e6
        have E7 := Lib.hid e7
        clear hMr ho6 ho7 hm7 e6 e7 hq
        go_wp2_with (at_builtin; go_loud (refine wpList_push rfl _ _ TIs rfl 0 TI i0 (.int .i64 0) 1 8 Tryz.underlying74 gi gz0 gz1 gz2 rfl (by decide) (by decide) (.slice a7 m7 c7) m7 (rowN ((ds.take k).filter (fun q => decide (q < f)))) rfl (ownsRow_upd HO.out ((Upd.refl Nowhere wB).alloc _) (fun _ _ h => h)) wB.heap.size 1 [.int .i64 (q : Nat)] rfl rfl (new_cells wB #[.int .i64 (q : Nat)] _) (by simp [Value.oneCell']) (by omega) (Nat.zero_le _) ?_; intro v9 w9 ho9 hu9 hn9; have HF := Lib.hid (m_row [_] _ HMR.out ((Upd.refl Nowhere wB).alloc _) ho9 hu9 hn9); clear ho9 hu9 hn9))
        go_roundw
        case rel => exact ⟨k + 1, by first | rfl | go_num, by omega, by rw [E6.out, E7.out, List.length_append, List.length_append, rowN_app, rowN_app, HMX.out]; simpa [show rowN [q] = [Value.int .i64 (q : Nat)] from rfl, show rowN [] = [] from rfl] using HF.out⟩
        case measure => simp [intOf]; omega
    · obtain rfl : k = nd := by omega
      have hI : ¬ (k : Int) < k := by omega
      have etk : ds.take k = ds := List.take_of_length_le (by rw [HND.out]; exact Nat.le_refl _)
      rw [etk] at hMr
      obtain ⟨l6, hl6⟩ : ∃ y, ds.filter (fun q => decide (f ≤ q)) = y := ⟨_, rfl⟩
      obtain ⟨l7, hl7⟩ : ∃ y, ds.filter (fun q => decide (q < f)) = y := ⟨_, rfl⟩
      have hord : turnD N f (ne X) = l6 ++ l7 := by unfold turnD; rw [HDS.out, hl6, hl7]
      have hb6 : l6.length ≤ ds.length := by rw [← hl6]; exact List.length_filter_le _ _
      have hb7 : l7.length ≤ ds.length := by rw [← hl7]; exact List.length_filter_le _ _
      rw [HND.out] at hb6 hb7
      rw [hl6, hl7] at hMr
      have ho6 := m_own hMr mem0
      obtain ⟨a7, c7, hv7, hn7, hs7⟩ := row_src (m_own hMr mem1)
      obtain ⟨a6, c6, hv6⟩ := row_form ho6
      obtain ⟨m6, hm6⟩ : ∃ y, l6.length = y := ⟨_, rfl⟩
      obtain ⟨m7, hm7⟩ : ∃ y, l7.length = y := ⟨_, rfl⟩
      rw [hm6] at hv6
      rw [hm7] at hv7
      subst hv6 hv7
      rw [hm6] at ho6 hMr hb6
      rw [hm7] at hn7 hb7
      have HMR := Lib.hid hMr
      have HO := Lib.hid ho6
      have HORD := Lib.hid hord
      have H67 : Hid (rowN l6 ++ rowN l7 = rowN (turnD N f (ne X)) ∧ m6 + m7 = (turnD N f (ne X)).length) := Lib.hid ⟨by rw [hord, rowN_app], by rw [hord, List.length_append, hm6, hm7]⟩
      have hr7 : (rowN l7).length = m7 := by rw [rowN_len, hm7]
      clear hMr ho6 hord etk hl6 hl7 hm6 hm7
      have hsI : ∀ u ∈ rowN l7, u.oneCell' = true := fun u hu => by
        unfold rowN at hu
        obtain ⟨i, _, rfl⟩ := List.mem_map.1 hu
        rfl
      have HSI := Lib.hid hsI
      have HS7 := Lib.hid hs7
      have HR7 := Lib.hid hr7
      have HN7 := Lib.hid hn7
      clear hsI hs7 hr7 hn7
      obtain ⟨no, hno⟩ : ∃ y, m6 + m7 = y := ⟨_, rfl⟩
      have HNO := Lib.hid hno
      have hnol : no ≤ 524288 := by omega
      clear hno
      go_wp2_with (at_builtin; go_loud (refine wpList_app rfl _ _ TIs rfl 0 TI i0 (.int .i64 0) 1 8 Tryz.underlying74 gi gz0 gz1 gz2 rfl (by decide) (by decide) (.slice a6 m6 c6) m6 (rowN l6) rfl HO.out a7 m7 c7 (rowN l7) rfl HN7.out (by rw [HR7.out, Nat.mul_one]) HS7.out HSI.out (by omega) (Nat.zero_le _) ?_; intro v60 w6 ho9 hu9 hn9; rw [HNO.out, H67.out.1] at ho9; have HF := Lib.hid (m_drop1 (m_drop1 (m_row [] _ HMR.out (Upd.refl Nowhere wB) ho9 hu9 hn9))); obtain ⟨a60, c60, hv60⟩ := row_form ho9; subst hv60; clear ho9 hu9 hn9))
      obtain ⟨od, hod⟩ : ∃ y, turnD N f (ne X) = y := ⟨_, rfl⟩
      have HOL : Hid (od.length = no) := Lib.hid (by rw [← hod, ← H67.out.2, HNO.out])
      have HOM : Hid (∀ q ∈ od, q < N ∧ ne X q = true) := Lib.hid (fun q hq => turn_mem (by rw [hod]; exact hq))
      have HM6 : Hid (Made w w6 [rowW TI 1 (.slice a60 no c60) no (rowN od), rowW TIt 2 v3 (outJ N base f X B od 0).length (pcs (outJ N base f X B od 0))]) := Lib.hid (by
        have h9 := HF.out
        rw [hod] at h9
        unfold outJ
        simpa using h9)
      have HWN2 : Hid (od.flatMap (dayl N base f X) = W) := Lib.hid (by rw [← hod]; exact HWN.out)
      clear hod HF HWN HORD H67 HNO HMR HO HSI HS7 HR7 HN7 HDS HND hb6 hb7 hdl hI hlt hk gi gz0 gz1 gz2 i0
      go_loopw [3, 62] (fun v3 iv wr => ∃ j : Nat, iv = .int .i64 j ∧ j ≤ no ∧ Made w wr [rowW TI 1 (.slice a60 no c60) no (rowN od), rowW TIt 2 v3 (outJ N base f X B od j).length (pcs (outJ N base f X B od j))]) (fun _ iv _ => no - (intOf iv).toNat)
      case atStart => exact ⟨0, rfl, Nat.zero_le _, HM6.out⟩
      case round =>
        obtain ⟨j, rfl, hj, hMr⟩ := hrel
        obtain ⟨w7, rfl⟩ : ∃ x, x = wr := ⟨_, rfl⟩
        clear HM6
        by_cases hlj : j < no
        · have hjI : (j : Int) < (no : Int) := by omega
          obtain ⟨g, cg, he⟩ := m_arr hMr mem0 (by omega)
          injection he with he1 he2 he3
          subst he1
          subst he3
          clear he2
          obtain ⟨q, hq⟩ : ∃ q, od[j]? = some q := ⟨od[j]'(by rw [HOL.out]; exact hlj), by simp⟩
          have kq := m_cell hMr mem0 (rowN_at hq)
          obtain ⟨hqN, hqX⟩ := HOM.out q (List.mem_of_getElem? hq)
          obtain ⟨hp1, hp2⟩ := day_part hq HWN2.out
          obtain ⟨s9, hs9⟩ : ∃ s9, q + N - f = s9 := ⟨_, rfl⟩
          obtain ⟨d9, hd9⟩ : ∃ d9, s9 % N = d9 := ⟨_, rfl⟩
          obtain ⟨r9, hr9⟩ : ∃ r9, base + d9 = r9 := ⟨_, rfl⟩
          have hdl9 : dayl N base f X q = (X q).map (fun x => (r9, x)) := by unfold dayl; rw [hs9, hd9, hr9]
          have hr9b : r9 ≤ 18446744073709551615 := by
            cases hx : X q with
            | nil => exact absurd hx (ne_true hqX)
            | cons x t =>
              have h1 := hp2 (r9, x) (by rw [hdl9, hx]; exact List.mem_cons_self ..)
              have h2 := HRK.out (r9, x) (by rw [HME.out]; exact List.mem_append_right _ (List.mem_append_left _ h1))
              exact h2
          have hlen9 : (outJ N base f X B od j).length + (X q).length ≤ 4096 := by
            unfold outJ
            rw [List.length_append]
            rw [hdl9, List.length_map] at hp1
            have h1 := congrArg List.length HME.out
            rw [HMM.out, List.length_append, List.length_append] at h1
            omega
          have HNX : Hid (outJ N base f X B od (j + 1) = outJ N base f X B od j ++ (X q).map (fun x => (r9, x))) := Lib.hid (by rw [outJ_next hq, hdl9])
          have e1 : (q : Int) - (f : Int) + (N : Int) = (s9 : Int) := by omega
          have e2 : (s9 : Int).tmod (N : Int) = (d9 : Int) := by rw [← hd9]; rfl
          have e3 : (base : Int) + (d9 : Int) = (r9 : Int) := by omega
          have hdN : d9 < N := by rw [← hd9]; exact Nat.mod_lt _ hN0
          have hN1 : ¬ N = 0 := by omega
          have hs9b : s9 ≤ 1000000 := by omega
          obtain ⟨hs, hsl, hsp, hsle, hsc⟩ := (HQ q hqN).out
          have HSL := Lib.hid hsl
          have HSP := Lib.hid hsp
          have HLN := Lib.hid hlen9
          obtain ⟨c0, c1, c2, c3, c4, c5, -⟩ := (HCB w7 hMr.upd).out
          have HM7 := Lib.hid hMr
          obtain ⟨nh, hnh⟩ : ∃ y, hs.length = y := ⟨_, rfl⟩
          rw [hnh] at hsc hsle
          have HNH := Lib.hid hnh
          have HSC := Lib.hid hsc
          clear hMr hq hqX hp1 hp2 hs9 hd9 hr9 hdl9 hlen9 hsl hsp hsc hnh
          go_upto_region 17 with fail
          go_quiet (fail)
          have HM8 := Lib.hid (HM7.out.old ((Upd.refl Nowhere w7).drewN nq))
          clear c0 c1 c2 c3 c4 c5 HM7 kq e1 e2 e3
          generalize w7.drewN nq = w8 at *
          obtain ⟨c0, c1, c2, c3, c4, c5, -⟩ := (HCB w8 HM8.out.upd).out
          have HQC := Lib.hid (HSC.out w8 HM8.out.upd)
          go_wp2_with fail
          refine (HQC.out).mono ?_
          rintro e w9 ⟨v84, rfl, ho9, hu9⟩
          have hm9 := m_more HM8.out ho9 hu9
          obtain ⟨a84, c84, hv84⟩ := row_form (ownsRow_base ho9 (Nat.zero_le _))
          subst hv84
          have HM9 : Hid (Made w w9 [rowW TI 1 (.slice a84 nh c84) nh (rowN hs), rowW TI 1 (.slice (some ⟨g, 0, none⟩) no c60) no (rowN od), rowW TIt 2 u3 (outJ N base f X B od j ++ ((X q).map (fun x => (r9, x))).take 0).length (pcs (outJ N base f X B od j ++ ((X q).map (fun x => (r9, x))).take 0))]) := Lib.hid (by rw [List.take_zero, List.append_nil]; exact hm9)
          clear ho9 hu9 hm9 HQC HM8 c0 c1 c2 c3 c4 c5
          go_wp2_with fail
          go_loopw [3, 86] (fun v3 iv wr => ∃ i : Nat, iv = .int .i64 i ∧ i ≤ nh ∧ Made w wr [rowW TI 1 (.slice a84 nh c84) nh (rowN hs), rowW TI 1 (.slice (some ⟨g, 0, none⟩) no c60) no (rowN od), rowW TIt 2 v3 (outJ N base f X B od j ++ ((X q).map (fun x => (r9, x))).take i).length (pcs (outJ N base f X B od j ++ ((X q).map (fun x => (r9, x))).take i))]) (fun _ iv _ => nh - (intOf iv).toNat)
          case atStart => exact ⟨0, rfl, Nat.zero_le _, HM9.out⟩
          case round =>
            obtain ⟨i, rfl, hi, hMi⟩ := hrel
            obtain ⟨wC, rfl⟩ : ∃ x, x = wr := ⟨_, rfl⟩
            clear HM9
            by_cases hli : i < nh
            · have hiI : (i : Int) < (nh : Int) := by omega
              obtain ⟨g2, cg2, he⟩ := m_arr hMi mem0 (by omega)
              injection he with he1 he2 he3
              subst he1
              subst he3
              clear he2
              obtain ⟨hd, hhd⟩ : ∃ y, hs[i]? = some y := ⟨hs[i]'(by rw [HNH.out]; exact hli), by simp⟩
              have kh := m_cell hMi mem0 (rowN_at hhd)
              obtain ⟨x, hx, hpa⟩ := HSP.out i hd hhd
              have HG := Lib.hid (p_get (hpa.old hMi.upd))
              have etk : ((X q).map (fun x => (r9, x))).take (i + 1) = ((X q).map (fun x => (r9, x))).take i ++ [(r9, x)] := by
                rw [List.take_add_one, List.getElem?_map, hx]; rfl
              have ETK := Lib.hid etk
              obtain ⟨c0, c1, c2, c3, c4, c5, -⟩ := (HCB wC hMi.upd).out
              have ho3 := m_own hMi mem2
              obtain ⟨a3, c3', hv3⟩ := row_form ho3
              obtain ⟨L, hL⟩ : ∃ y, outJ N base f X B od j ++ ((X q).map (fun x => (r9, x))).take i = y := ⟨_, rfl⟩
              rw [hL] at ho3 hv3 hMi
              obtain ⟨m3, hm3⟩ : ∃ y, L.length = y := ⟨_, rfl⟩
              have hm3b : m3 ≤ 4096 := by
                have h1 := HLN.out
                rw [← hm3, ← hL, List.length_append, List.length_take, List.length_map]
                omega
              rw [hm3] at ho3 hv3 hMi
              subst hv3
              have HO := Lib.hid ho3
              have HMI := Lib.hid hMi
              have HLL := Lib.hid hL
              have HM3 := Lib.hid hm3
              clear hMi hhd hx hpa etk ho3 hL hm3
              go_wp2_with fail
              refine (HG.out).mono ?_
              rintro e w' ⟨rfl, kk, rfl⟩
              have HMJ := Lib.hid (HMI.out.old ((Upd.refl Nowhere wC).drewN kk))
              have HO2 := Lib.hid (ownsRow_upd HO.out ((Upd.refl Nowhere wC).drewN kk) (fun _ _ h => h))
              clear c0 c1 c2 c3 c4 c5 HMI HO HG kh
              generalize wC.drewN kk = wD at *
              go_wp2_with (at_builtin; go_loud (refine wpList_push rfl _ _ 41 rfl 0 TIt j0 (.agg #[.int .u64 0, .int .i64 0]) 2 16 Tryz.underlying41 gj jz0 jz1 jz2 rfl (by decide) (by decide) (.slice a3 m3 c3') m3 (pcs L) rfl (ownsRow_upd HO2.out ((Upd.refl Nowhere wD).alloc _) (fun _ _ h => h)) wD.heap.size 1 [.int .u64 (r9 : Nat), .int .i64 x] rfl rfl (new_cells wD #[.int .u64 (r9 : Nat), .int .i64 x] _) (by simp [Value.oneCell']) (by omega) (Nat.zero_le _) ?_; intro v9 w10 ho9 hu9 hn9; have HF := Lib.hid (m_row [_, _] [] HMJ.out ((Upd.refl Nowhere wD).alloc _) ho9 hu9 hn9); clear ho9 hu9 hn9))
              go_roundw
              case rel => exact ⟨i + 1, by first | rfl | go_num, by omega, by
                rw [ETK.out, ← List.append_assoc, HLL.out, pcs_app, List.length_append, HM3.out]
                exact HF.out⟩
              case measure => simp [intOf]; omega
            · obtain rfl : i = nh := by omega
              have hiI : ¬ (i : Int) < i := by omega
              have HMK : Hid (Made w wC [rowW TI 1 (.slice (some ⟨g, 0, none⟩) no c60) no (rowN od), rowW TIt 2 u3 (outJ N base f X B od (j + 1)).length (pcs (outJ N base f X B od (j + 1)))]) := Lib.hid (by
                have h9 := hMi.drop
                rw [List.take_of_length_le (by rw [List.length_map, ← HSL.out, HNH.out]; exact Nat.le_refl _), ← HNX.out] at h9
                exact h9)
              clear hMi
              go_wp2_with fail
              go_roundw
              case rel => exact ⟨j + 1, by first | rfl | go_num, by omega, HMK.out⟩
              case measure => simp [intOf]; omega
        · obtain rfl : j = no := by omega
          have hjI : ¬ (j : Int) < j := by omega
          have eo : outJ N base f X B od j = B ++ W := by unfold outJ; rw [List.take_of_length_le (by rw [HOL.out]; exact Nat.le_refl _), HWN2.out]
          rw [eo] at hMr
          obtain ⟨L, hL⟩ : ∃ y, B ++ W = y := ⟨_, rfl⟩
          rw [hL] at hMr
          have ho3 := m_own hMr mem1
          obtain ⟨a3, c3', hv3⟩ := row_form ho3
          obtain ⟨m3, hm3⟩ : ∃ y, L.length = y := ⟨_, rfl⟩
          have hML : L ++ R = M := by rw [HME.out, ← hL, List.append_assoc]
          have hm3b : m3 + R.length ≤ 4096 := by
            have h1 := congrArg List.length hML
            rw [List.length_append, hm3, HMM.out] at h1
            omega
          rw [hm3] at ho3 hv3 hMr
          subst hv3
          have HMR := Lib.hid hMr
          have HRA := Lib.hid (HR w7 hMr.upd).out
          obtain ⟨c0, c1, c2, c3, c4, c5, -⟩ := (HCB w7 hMr.upd).out
          have HLL := Lib.hid hML
          have HM3 := Lib.hid hm3
          clear hMr eo hL ho3 hML hm3
          go_wp2_with fail
          refine (HRA.out).mono ?_
          rintro e w8 ⟨vR, rfl, hoR, huR⟩
          have hm8 := m_more HMR.out hoR huR
          have HO8 := Lib.hid (m_own hm8 mem2)
          obtain ⟨aR, cR, hvR, hnR, hsR⟩ := row_src (m_own hm8 mem0)
          obtain ⟨mR, hmR⟩ : ∃ y, R.length = y := ⟨_, rfl⟩
          rw [hmR] at hvR hnR hm3b
          subst hvR
          have HM8 := Lib.hid hm8
          have HNR := Lib.hid hnR
          have HSR := Lib.hid hsR
          have HMR2 := Lib.hid hmR
          have hsI := pcs_one R
          have HSI := Lib.hid hsI
          clear hoR huR hm8 hnR hsR hmR hsI c0 c1 c2 c3 c4 c5 HRA
          go_wp2_with (at_builtin; go_loud (refine wpList_app rfl _ _ 41 rfl 0 TIt j0 (.agg #[.int .u64 0, .int .i64 0]) 2 16 Tryz.underlying41 gj jz0 jz1 jz2 rfl (by decide) (by decide) (.slice a3 m3 c3') m3 (pcs L) rfl HO8.out aR mR cR (pcs R) rfl HNR.out (by rw [pcs_length, HMR2.out]) HSR.out HSI.out (by omega) (Nat.zero_le _) ?_; intro v9 w10 ho9 hu9 hn9; have HF := Lib.hid (m_row [_, _] [] HM8.out (Upd.refl Nowhere w8) ho9 hu9 hn9); clear ho9 hu9 hn9))
          go_ret
          refine ⟨_, rfl, ?_, HF.out.upd⟩
          have h9 := m_base [_, _] [] HF.out
          rw [← pcs_app, HLL.out, show m3 + mR = M.length by rw [← HLL.out, List.length_append, HM3.out, HMR2.out]] at h9
          exact h9
/-- All that a calendar has, in order. -/
theorem s_all {w : World} {own : Nat → Prop} {cb room c : Nat} {M : List (Nat × Int)} (h : St w own cb room c M) (hT : Tab w) :
    Calls Tryz.prog 15 #[.pointer (some ⟨cb, 0, none⟩)] w fun e w' => ∃ v, e = .returned v ∧ PRow TIt w.heap.size w' v M ∧ Upd Nowhere w w' := by
  obtain ⟨sb, pb, bb, ab, base, N, n, X, B, W, R, h⟩ := h
  cases M with
  | nil => exact all_emp h
  | cons a t => exact all_full h hT (by simp)
end Go.Proofs.YtjbaibnmbeabnaaGreatDoor.CalI
namespace Go.Proofs.YtjbaibnmbeabnaaGreatDoor.CalI
open Go.RowKit Go.Proofs BigFrame Cal
open Wheel (Tab)
set_option maxHeartbeats 8000000
set_option maxRecDepth 1000000
abbrev TA : TypeId := 32
abbrev T9 : TypeId := 62
/-- What May tells. -/
def may (room L : Int) : Nat := if room < 1 ∨ 4096 < room then 25 else if L < 1 ∨ 3 < L then 23 else 0
theorem may_ok (room L : Int) (w : World) : Calls Tryz.prog 5 #[.int .i64 room, .int .i64 L] w fun e w' => e = .returned (.int .i64 (may room L : Nat)) ∧ w' = w := by
  unfold may
  by_cases h : room < 1 ∨ 4096 < room
  · rw [if_pos h]
    by_cases h1 : room < 1
    · have d1 : decide (room < 1) = true := decide_eq_true h1
      clear h h1
      go_enter Tryz.func5, Tryz.ntmps5
      go_wp2_with fail
      go_ret
      exact ⟨rfl, rfl⟩
    · have d1 : decide (room < 1) = false := decide_eq_false h1
      have d2 : decide (room > 4096) = true := decide_eq_true (by omega)
      have d3 : decide (4096 < room) = true := decide_eq_true (by omega)
      clear h h1
      go_enter Tryz.func5, Tryz.ntmps5
      go_wp2_with fail
      go_ret
      exact ⟨rfl, rfl⟩
  · rw [if_neg h]
    have d1 : decide (room < 1) = false := decide_eq_false (by omega)
    have d2 : decide (room > 4096) = false := decide_eq_false (by omega)
    have d3 : decide (4096 < room) = false := decide_eq_false (by omega)
    by_cases h2 : L < 1 ∨ 3 < L
    · rw [if_pos h2]
      by_cases h1 : L < 1
      · have d4 : decide (L < 1) = true := decide_eq_true h1
        clear h h1 h2
        go_enter Tryz.func5, Tryz.ntmps5
        go_wp2_with fail
        go_ret
        exact ⟨rfl, rfl⟩
      · have d4 : decide (L < 1) = false := decide_eq_false h1
        have d5 : decide (L > 3) = true := decide_eq_true (by omega)
        have d6 : decide (3 < L) = true := decide_eq_true (by omega)
        clear h h1 h2
        go_enter Tryz.func5, Tryz.ntmps5
        go_wp2_with fail
        go_ret
        exact ⟨rfl, rfl⟩
    · rw [if_neg h2]
      have d4 : decide (L < 1) = false := decide_eq_false (by omega)
      have d5 : decide (L > 3) = false := decide_eq_false (by omega)
      have d6 : decide (3 < L) = false := decide_eq_false (by omega)
      clear h h2
      go_enter Tryz.func5, Tryz.ntmps5
      go_wp2_with fail
      go_ret
      exact ⟨rfl, rfl⟩
theorem new_no (room L : Int) (w : World) (h : may room L ≠ 0) : Calls Tryz.prog 4 #[.int .i64 room, .int .i64 L] w fun e w' => e = .returned (.tuple #[.pointer none, .int .i64 (may room L : Nat)]) ∧ Upd Nowhere w w' := by
  by_cases hr : room < 1 ∨ 4096 < room
  · have e1 : may room L = 25 := if_pos hr
    rw [e1]
    have HN := Lib.hid (HeapI.new_bad room w hr)
    clear h e1
    go_enter Tryz.func4, Tryz.ntmps4
    go_wp2_with fail
    refine (HN.out).mono ?_
    rintro e w1 ⟨rfl, rfl⟩
    go_wp2_with fail
    go_ret2
    exact ⟨rfl, Upd.refl _ _⟩
  · have hL : L < 1 ∨ 3 < L := by
      by_cases hL : L < 1 ∨ 3 < L
      · exact hL
      · exact absurd (by unfold may; rw [if_neg hr, if_neg hL]) h
    have e1 : may room L = 23 := by unfold may; rw [if_neg hr, if_pos hL]
    rw [e1]
    obtain ⟨rm, rfl⟩ : ∃ rm : Nat, room = rm := ⟨room.toNat, by omega⟩
    have HN := Lib.hid (HeapI.q_new rm w (by omega) (by omega))
    have HF := fun (u : World) => Lib.hid (Ffs.new_bad L hL u)
    clear h e1 hr
    go_enter Tryz.func4, Tryz.ntmps4
    go_wp2_with fail
    refine (HN.out).mono ?_
    rintro e w1 ⟨rfl, -, u1⟩
    go_wp2_with fail
    refine ((HF _).out).mono ?_
    rintro e w2 ⟨rfl, rfl⟩
    go_wp2_with fail
    go_ret2
    exact ⟨rfl, u1⟩
theorem plays_no (room L : Int) (ad : Option Addr) (n ca : Nat) (w : World) (hT : Tab w) (hG : Tryz.tz64_ren.g 1 < w.heap.size) (h : may room L ≠ 0) :
    Calls Tryz.prog 3 #[.int .i64 room, .int .i64 L, .slice ad n ca] w fun e w' => e = .returned (.bool true) ∧ Upd Nowhere w w' := by
  have HL := fun u (hu : Upd Nowhere w u) => Lib.hid (CalS.lives u (hT.old hu id) (Nat.lt_of_lt_of_le hG hu.size))
  have HN := Lib.hid (new_no room L w h)
  have HM := fun (u : World) => Lib.hid (may_ok room L u)
  obtain ⟨c, hc⟩ : ∃ c, may room L = c := ⟨_, rfl⟩
  rw [hc] at HN HM h
  have q1 : ((c : Int) == 0) = false := by simp; omega
  have q2 : ((c : Int) != 0) = true := by simp; omega
  clear h hc hT hG
  go_enter Tryz.func3, Tryz.ntmps3
  go_wp2_with fail
  refine (HN.out).mono ?_
  rintro e w1 ⟨rfl, u1⟩
  go_wp2_with fail
  refine ((HM _).out).mono ?_
  rintro e w2 ⟨rfl, rfl⟩
  have HV := Lib.hid (HL _ u1).out
  clear HL HM HN
  go_wp2_with fail
  refine (HV.out).mono ?_
  rintro e w3 ⟨rfl, u3⟩
  go_wp2_with fail
  go_ret
  exact ⟨rfl, u1.trans u3 (fun _ _ h => h)⟩
theorem insR_ins (t : Nat) (x : Int) : ∀ l, insR (t, x) l = ins t x l
  | [] => rfl
  | a :: l => by
    unfold insR ins
    rw [insR_ins t x l]
theorem xblk {w0 w : World} {xb : Nat} {a0 a1 a2 : Value} {l : List Comp} (h : Made w0 w (blkC xb #[a0, a1, a2] TA :: l)) : Blk w xb #[a0, a1, a2] TA := by
  obtain ⟨_, ⟨h1, _⟩, _, _⟩ := Made.foc (blkC xb #[a0, a1, a2] TA) l [] h
  exact h1
theorem m_swap3 {w0 w : World} {A B C : Comp} {l : List Comp} (h : Made w0 w (A :: B :: C :: l)) : Made w0 w (B :: A :: l) :=
  (h.perm (((List.Perm.swap B A (C :: l)).trans ((List.Perm.swap C A l).cons B)).trans (List.Perm.swap C B (A :: l)))).drop
theorem first_any {w : World} {v : Value} {M : List (Nat × Int)} (h : PRow T9 0 w v M) {r : Nat} {x : Int} {b : Bool} (hv : fst1 M = (r, x, b)) :
    Calls Tryz.prog 7 #[v] w fun e w' => e = .returned (.tuple #[.int .u64 r, .int .i64 x, .bool b]) ∧ Upd Nowhere w w' := by
  cases M with
  | nil => cases hv; exact Ref09.first_nil h
  | cons a t => cases hv; exact Ref09.first_some h
theorem plays_big (room L : Int) (ad : Option Addr) (n ca : Nat) (w : World) (hT : Tab w) (hG : Tryz.tz64_ren.g 1 < w.heap.size) (h : may room L = 0) (hn : 200 < n) :
    Calls Tryz.prog 3 #[.int .i64 room, .int .i64 L, .slice ad n ca] w fun e w' => e = .returned (.bool true) ∧ Upd Nowhere w w' := by
  have HL := fun u (hu : Upd Nowhere w u) => Lib.hid (CalS.lives u (hT.old hu id) (Nat.lt_of_lt_of_le hG hu.size))
  obtain ⟨rm, l, rfl, rfl, h1, h2, h3, h4⟩ : ∃ rm l : Nat, room = rm ∧ L = l ∧ 1 ≤ rm ∧ rm ≤ 4096 ∧ 1 ≤ l ∧ l ≤ 3 := by
    unfold may at h
    split at h
    · cases h
    · split at h
      · cases h
      · exact ⟨room.toNat, L.toNat, by omega, by omega, by omega, by omega, by omega, by omega⟩
  have HN := Lib.hid (m_new (Made.start w) rm l h1 h2 h3 h4)
  have HM := fun (u : World) => Lib.hid (may_ok rm l u)
  rw [h] at HM
  have t1 : decide ((n : Int) > 200) = true := decide_eq_true (by omega)
  have t2 : decide (200 < n) = true := decide_eq_true hn
  clear h hT hG hn
  go_enter Tryz.func3, Tryz.ntmps3
  go_wp2_with fail
  refine (HN.out).mono ?_
  rintro e w1 ⟨cb, rfl, hm1⟩
  have u1 := hm1.upd
  have HV := Lib.hid (HL _ u1).out
  clear hm1 HN HL
  go_wp2_with fail
  refine ((HM _).out).mono ?_
  rintro e w2 ⟨rfl, rfl⟩
  go_wp2_with fail
  refine (HV.out).mono ?_
  rintro e w3 ⟨rfl, u3⟩
  go_wp2_with fail
  go_ret
  exact ⟨rfl, u1.trans u3 (fun _ _ h => h)⟩
theorem m_all {w0 w : World} (l1 l2 : List Comp) {cb room c : Nat} {M : List (Nat × Int)} (h : Made w0 w (l1 ++ calC cb room c M :: l2)) (hT : Tab w0) :
    Calls Tryz.prog 15 #[.pointer (some ⟨cb, 0, none⟩)] w fun e w' => ∃ v, e = .returned v ∧ PRow HeapI.TIt w.heap.size w' v M ∧ Upd Nowhere w w' := by
  obtain ⟨o, h1, _, _⟩ := Made.foc _ _ _ h
  exact s_all h1 (Made.tab h hT)
theorem plays_walk (room L : Int) (ad : Option Addr) (ca : Nat) (l : List (Nat × Nat × Int)) (hl : l.length ≤ 200) (hb : ∀ a ∈ l, a.1 ≤ 255 ∧ a.2.1 ≤ 18446744073709551615) (w : World) (hA : Acts w ad l) (hT : Tab w) (hG : Tryz.tz64_ren.g 1 < w.heap.size) (h : may room L = 0) :
    Calls Tryz.prog 3 #[.int .i64 room, .int .i64 L, .slice ad l.length ca] w fun e w' => e = .returned (.bool true) ∧ Upd Nowhere w w' := by
  have HL := fun u (hu : Upd Nowhere w u) => Lib.hid (CalS.lives u (hT.old hu id) (Nat.lt_of_lt_of_le hG hu.size))
  obtain ⟨rm, lv, rfl, rfl, h1, h2, h3, h4⟩ : ∃ rm l : Nat, room = rm ∧ L = l ∧ 1 ≤ rm ∧ rm ≤ 4096 ∧ 1 ≤ l ∧ l ≤ 3 := by
    unfold may at h
    split at h
    · cases h
    · split at h
      · cases h
      · exact ⟨room.toNat, L.toNat, by omega, by omega, by omega, by omega, by omega, by omega⟩
  have HNW := Lib.hid (m_new (Made.start w) rm lv h1 h2 h3 h4)
  have HM := fun (u : World) => Lib.hid (may_ok rm lv u)
  rw [h] at HM
  obtain ⟨n, hn⟩ : ∃ n, l.length = n := ⟨_, rfl⟩
  rw [hn] at hl ⊢
  have t1 : decide ((n : Int) > 200) = false := decide_eq_false (by omega)
  have t2 : decide (200 < n) = false := decide_eq_false (by omega)
  have HA := Lib.hid hA
  have HB := Lib.hid hb
  have HT := Lib.hid hT
  have HG := Lib.hid hG
  have HN := Lib.hid hn
  clear h hT hG hn hA hb
  go_enter Tryz.func3, Tryz.ntmps3
  go_wp2_with fail
  refine (HNW.out).mono ?_
  rintro e w1 ⟨cb, rfl, hm1⟩
  have hm2 := m_nil hm1 T9 2
  have H1 := Lib.hid hm2
  clear hm1 hm2 HNW
  go_wp2_with fail
  refine ((HM _).out).mono ?_
  rintro e w2 ⟨rfl, rfl⟩
  clear HM
  go_wp2_with fail
  go_loopw [10, 52] (fun v iv wr => ∃ (k c : Nat) (M : List (Nat × Int)), iv = .int .i64 k ∧ k ≤ n ∧ c ≤ k ∧ M.length ≤ rm ∧ Made w wr [rowW T9 2 v M.length (pcs M), calC cb rm c M]) (fun _ iv _ => n - (intOf iv).toNat)
  case atStart => exact ⟨0, 0, [], rfl, Nat.zero_le _, Nat.le_refl _, Nat.zero_le _, H1.out⟩
  case round =>
    obtain ⟨k, c, M, rfl, hk, hck, hMr, hM⟩ := hrel
    obtain ⟨wB, rfl⟩ : ∃ x, x = wr := ⟨_, rfl⟩
    clear H1
    by_cases hlt : k < n
    · have hI : (k : Int) < n := by omega
      obtain ⟨⟨K, R, X⟩, hx⟩ : ∃ a, l[k]? = some a := ⟨l[k]'(by rw [HN.out]; exact hlt), by simp⟩
      have hKR := HB.out _ (List.mem_of_getElem? hx)
      simp only at hKR
      obtain ⟨ga, oa, rfl, r0, r1, r2, r1', r2'⟩ := HA.out.get hM.upd hx
      have hmore := hM.more (C := blkC wB.heap.size #[.int .u8 K, .int .u64 R, .int .i64 X] TA) (o := fun q => q = wB.heap.size) ⟨Blk.new wB #[.int .u8 K, .int .u64 R, .int .i64 X] TA, fun _ => Iff.rfl⟩ (fun q hq => by rw [hq]; exact Nat.le_refl _) ((Upd.refl _ _).alloc _)
      have HM := Lib.hid hmore
      have HCK := Lib.hid hck
      have HMR := Lib.hid hMr
      obtain ⟨av, cv, hv⟩ := row_form (m_own hM mem0)
      obtain ⟨m, hm⟩ : ∃ m, M.length = m := ⟨_, rfl⟩
      rw [hm] at hv
      subst hv
      have HMM := Lib.hid hm
      clear hM hmore hx hck hMr hm
      go_upto_region 11 with fail
      obtain ⟨wA, hwA⟩ : ∃ wA, wB.alloc (.cells #[.int .u8 K, .int .u64 R, .int .i64 X] TA) = wA := ⟨_, rfl⟩
      obtain ⟨xb, hxb⟩ : ∃ xb, wB.heap.size = xb := ⟨_, rfl⟩
      rw [hwA] at HM ⊢
      rw [hxb] at HM
      try simp only [hxb]
      clear hwA hxb r0 r1 r2 r1' r2'
      obtain ⟨⟨rr, xx, vv⟩, hfst⟩ : ∃ p, fst1 M = p := ⟨_, rfl⟩
      have HFST := Lib.hid hfst
      have hrow := m_own HM.out mem1
      have HRW := Lib.hid hrow
      rw [HMM.out] at hrow
      have HF := Lib.hid (first_any (show PRow T9 0 wA (.slice av m cv) M from by unfold PRow; rw [HMM.out]; exact hrow) hfst)
      clear hfst hrow
      go_wp2_with fail
      refine (HF.out).mono ?_
      rintro e w3 ⟨rfl, u3⟩
      have HM3 := Lib.hid (HM.out.old u3)
      clear HM HF HRW u3
      obtain ⟨k0, k1, k2, y0, y1, y2⟩ := cells3 (xblk HM3.out)
      obtain ⟨g9, hg9⟩ : ∃ g9, K % 4 = g9 := ⟨_, rfl⟩
      have eg1 : (K : Int) % 4 = (g9 : Int) := by omega
      have eg2 : (K : Int).tmod 4 = (g9 : Int) := by rw [Int.tmod_eq_emod_of_nonneg (by omega)]; omega
      have hR9 := hKR.2
      go_upto_block 2 with fail
      go_cut [10] from 65 to 128 (fun v10 wc => ∃ (c' : Nat) (M' : List (Nat × Int)), c' ≤ k + 1 ∧ M'.length ≤ rm ∧ Made w wc [rowW T9 2 v10 M'.length (pcs M'), calC cb rm c' M'])
      case first =>
        as_aux_lemma =>
          by_cases hg0 : g9 = 0 ∨ g9 = 1
          · obtain ⟨v, hv⟩ : ∃ v, decide (M.length < rm) = v := ⟨_, rfl⟩
            have HV := Lib.hid hv
            have hv2 : decide ((m : Int) < (rm : Int)) = v := by rw [← HV.out, HMM.out]; exact decide_eq_decide.2 (by omega)
            have hv3 : decide (m < rm) = v := by rw [← HV.out, HMM.out]
            have hb1 : (v != v) = false := by cases v <;> rfl
            have HPU := Lib.hid (m_push [blkC xb #[.int .u8 K, .int .u64 R, .int .i64 X] TA, rowW T9 2 (.slice av m cv) M.length (pcs M)] [] HM3.out (by have := HCK.out; omega) R hR9 X hv)
            have hg1 : ((g9 : Int) == 0) = true ∨ ((g9 : Int) == 0) = false ∧ ((g9 : Int) == 1) = true := by
              rcases hg0 with rfl | rfl
              · exact .inl rfl
              · exact .inr ⟨rfl, rfl⟩
            clear hv hg0 hg9 eg1 eg2
            rcases hg1 with q1 | ⟨q1, q2⟩
            all_goals
              go_upto_region 21 with (go_at_call 8; refine HPU.out.mono ?_; rintro e w4 ⟨rfl, h4⟩)
              have H4 := Lib.hid h4
              obtain ⟨j0, j1, j2, i0, i1, i2⟩ := cells3 (xblk h4)
              clear h4 HPU HM3 k0 k1 k2 y0 y1 y2
              cases v with
              | true =>
                have hlt2 : M.length < rm := of_decide_eq_true HV.out
                have hrow := m_own H4.out mem1
                have hpu := Ref09.push_any (base := 0) (show PRow T9 0 w4 (.slice av m cv) M from hrow) (by omega) R X
                rw [insR_ins] at hpu
                have HPU := Lib.hid hpu
                have HLT2 := Lib.hid hlt2
                clear hrow hpu hlt2 hv2 hv3
                go_wp2_with fail
                refine (HPU.out).mono ?_
                rintro e w5 ⟨v5, rfl, hP5, hu5⟩
                have hm5 := m_swap3 (m_more H4.out hP5 hu5)
                have HM5 := Lib.hid hm5.drop
                clear hm5 hP5 hu5 j0 j1 j2 i0 i1 i2
                go_wp2_with fail
                go_meet
                refine ⟨c + 1, ins R X M, by have := HCK.out; omega, by rw [ins_len]; have := HLT2.out; omega, ?_⟩
                have h9 := HM5.out
                unfold psh at h9
                rw [if_pos HLT2.out] at h9
                exact h9
              | false =>
                have hlt2 : ¬ M.length < rm := of_decide_eq_false HV.out
                have HLT2 := Lib.hid hlt2
                clear hlt2 j0 j1 j2 i0 i1 i2 hv2 hv3
                go_wp2_with fail
                go_meet
                refine ⟨c + 1, M, by have := HCK.out; omega, HMR.out, ?_⟩
                have h9 := H4.out.drop
                unfold psh at h9
                rw [if_neg HLT2.out] at h9
                first | exact h9 | (rw [HMM.out] at h9 ⊢; exact h9)
          · have q1 : ((g9 : Int) == 0) = false := by simp; omega
            have q2 : ((g9 : Int) == 1) = false := by simp; omega
            have hn9 : ¬ (g9 : Int) = 0 := by omega
            have hb1 : (vv != vv) = false := by cases vv <;> rfl
            have hb2 : ((rr : Int) != (rr : Int)) = false := by simp
            have hb3 : (xx != xx) = false := by simp
            by_cases hg2 : g9 = 2
            · have q3 : ((g9 : Int) == 2) = true := by simp; omega
              have HPO := Lib.hid (m_pop [blkC xb #[.int .u8 K, .int .u64 R, .int .i64 X] TA, rowW T9 2 (.slice av m cv) M.length (pcs M)] [] HM3.out HT.out HG.out HFST.out)
              clear hg0 hg9 eg1 eg2 hg2 hn9
              go_wp2_with fail
              refine (HPO.out).mono ?_
              rintro e w4 ⟨rfl, h4⟩
              have H4 := Lib.hid h4
              have hrow := m_own H4.out mem1
              have HRE := Lib.hid (Ref09.rest_any (base := 0) (show PRow T9 0 w4 (.slice av m cv) M from hrow) (by have := HMR.out; omega))
              clear h4 HPO HM3 k0 k1 k2 y0 y1 y2 hrow
              go_wp2_with fail
              refine (HRE.out).mono ?_
              rintro e w5 ⟨v5, rfl, hP5, hu5⟩
              have hm5 := m_swap3 (m_more H4.out hP5 hu5)
              have HM5 := Lib.hid hm5.drop
              clear hm5 hP5 hu5
              go_wp2_with fail
              go_meet
              exact ⟨c, M.tail, by have := HCK.out; omega, by have := HMR.out; rw [List.length_tail]; omega, HM5.out⟩
            · have q3 : ((g9 : Int) == 2) = false := by simp; omega
              have HPK := Lib.hid (m_peek [blkC xb #[.int .u8 K, .int .u64 R, .int .i64 X] TA, rowW T9 2 (.slice av m cv) M.length (pcs M)] [] HM3.out HT.out HG.out HFST.out)
              clear hg0 hg9 eg1 eg2 hg2 hn9
              go_wp2_with fail
              refine (HPK.out).mono ?_
              rintro e w4 ⟨rfl, h4⟩
              have H4 := Lib.hid h4
              clear h4 HPK HM3 k0 k1 k2 y0 y1 y2
              go_wp2_with fail
              go_meet
              refine ⟨c, M, by have := HCK.out; omega, HMR.out, ?_⟩
              have h9 := H4.out.drop
              first | exact h9 | (rw [HMM.out] at h9 ⊢; exact h9)
      case rest =>
        as_aux_lemma =>
          obtain ⟨c', M', hc', hM', hMc⟩ := hcut
          obtain ⟨w4, rfl⟩ : ∃ y, y = wc := ⟨_, rfl⟩
          have HM4 := Lib.hid hMc
          have HC2 := Lib.hid hc'
          have HMR2 := Lib.hid hM'
          obtain ⟨a4, c4, hv4⟩ := row_form (m_own hMc mem0)
          obtain ⟨m4, hm4⟩ : ∃ y, M'.length = y := ⟨_, rfl⟩
          rw [hm4] at hv4
          subst hv4
          have HM9 := Lib.hid hm4
          have HLE := Lib.hid (m_len [rowW T9 2 (.slice a4 m4 c4) M'.length (pcs M')] [] hMc hm4)
          have hb1 : ((m4 : Int) != (m4 : Int)) = false := by simp
          clear hMc hc' hM' hm4 HM3 k0 k1 k2 y0 y1 y2 hg9 eg1 eg2
          go_wp2_with fail
          refine (HLE.out).mono ?_
          rintro e w5 ⟨rfl, k5, rfl⟩
          have HM5 := Lib.hid (HM4.out.old ((Upd.refl Nowhere w4).drewN k5))
          have HAL := Lib.hid (m_all [rowW T9 2 (.slice a4 m4 c4) M'.length (pcs M')] [] HM5.out HT.out)
          clear HM4 HLE
          generalize w4.drewN k5 = w5 at *
          go_wp2_with fail
          refine (HAL.out).mono ?_
          rintro e w6 ⟨v6, rfl, hP6, hu6⟩
          have HM6 := Lib.hid (HM5.out.old hu6)
          have hrow := m_own HM6.out mem0
          have HSA := Lib.hid (Same11.same_eq hP6 (show PRow T9 0 w6 (.slice a4 m4 c4) M' from hrow) (by have := HMR2.out; omega))
          clear HAL hP6 hu6 hrow HM5
          go_wp2_with fail
          refine (HSA.out).mono ?_
          rintro e w7 ⟨rfl, hu7⟩
          have HM7 := Lib.hid (HM6.out.old hu7)
          clear HSA hu7 HM6
          go_wp2_with fail
          go_roundw
          case rel => exact ⟨k + 1, c', M', by first | rfl | go_num, by omega, HC2.out, HMR2.out, HM7.out⟩
          case measure => simp [intOf]; omega
    · obtain rfl : k = n := by omega
      have hI : ¬ (k : Int) < k := by omega
      have hu := hM.upd
      have HV := Lib.hid (HL _ hu).out
      clear hM HL
      go_wp2_with fail
      refine HV.out.mono ?_
      rintro e w7 ⟨rfl, u7⟩
      go_wp2_with fail
      go_ret
      exact ⟨rfl, hu.trans u7 (fun _ _ h => h)⟩
theorem plays_law (room L : Int) (v : Value) (l : List (Nat × Nat × Int)) (hb : ∀ a ∈ l, a.1 ≤ 255 ∧ a.2.1 ≤ 18446744073709551615) (w : World) (hv : RowsAt w v l.length (l.flatMap act)) (hT : Tab w) (hG : Tryz.tz64_ren.g 1 < w.heap.size) :
    Calls Tryz.prog 3 #[.int .i64 room, .int .i64 L, v] w fun e w' => e = .returned (.bool true) ∧ Upd Nowhere w w' := by
  obtain ⟨ad, ca, rfl, h0, _, hca, hc⟩ := hv
  by_cases h : may room L = 0
  · by_cases hbig : 200 < l.length
    · exact plays_big room L ad _ ca w hT hG h hbig
    · exact plays_walk room L ad ca l (by omega) hb w ⟨fun h => (h0 h).1, hc⟩ hT hG h
  · exact plays_no room L ad _ ca w hT hG h
end Go.Proofs.YtjbaibnmbeabnaaGreatDoor.CalI
