/- SpLays: both lay; the rows that the law builds. -/
import Derived.Test.YtopibbaopglggaaSpI8
import Derived.Test.YtopibbaopglggaaSpPlays2
namespace Go.Proofs.Ytopibbaopglggaa.SpI
open Go.RowKit Go.Proofs BigFrame
open PairI (TR TE el flat)
open Ref12 (Ref RefOf TQ TL TI mayC Nest NestOf layC)
set_option maxHeartbeats 1000000
set_option maxRecDepth 1000000
section
variable {w0 w3 w w' : World} {s b room n cnt : Nat} {bs : Nat → Nat} {ps : Nat → List (Nat × Int)} {l1 l2 : Value} {v1 v2 : Nat → Value} {q1 q2 : Nat → List (Nat × Int)} {m1 m2 : Nat}
/-- Both, beside two nests that were made since. -/
structure Bs (w0 w : World) (s b room n cnt : Nat) (bs : Nat → Nat) (ps : Nat → List (Nat × Int)) (cnt2 : Nat) (bs2 : Nat → Nat) (ps2 : Nat → List (Nat × Int)) (l1 l2 : Value) (v1 v2 : Nat → Value) (q1 q2 : Nat → List (Nat × Int)) (m1 m2 : Nat) (bv lv : Value) (vs : Nat → Value) : Prop where
  has : HasA (fun k => RefOf b n bv lv vs k ∨ NestOf l1 v1 m1 k ∨ NestOf l2 v2 m2 k) w0 w s n room cnt bs (upq ps)
  ref : Ref w0.heap.size w b room n bv lv vs bs2 ps2
  n1 : Nest TIt TLt w0.heap.size w l1 v1 q1 m1
  n2 : Nest TI TL w0.heap.size w l2 v2 q2 m2
  off : ∀ k, NestOf l2 v2 m2 k → ¬ RefOf b n bv lv vs k
  upd : Upd Nowhere w0 w
  npos : 0 < n
  nle : n ≤ 32
  rle : room ≤ 4096
  eqc : cnt2 = tot ps2 n
theorem Bs.of (h : Pl none #[] w0 w3 s b room n cnt bs ps bs ps) (hu : Upd Nowhere w3 w) (h1 : Nest TIt TLt w3.heap.size w l1 v1 q1 m1) (h2 : Nest TI TL w3.heap.size w l2 v2 q2 m2) : ∃ bv lv vs, Bs w0 w s b room n cnt bs ps cnt bs ps l1 l2 v1 v2 q1 q2 m1 m2 bv lv vs := by
  have ht := h.tot_
  obtain ⟨bv, lv, vs, h⟩ := h
  refine ⟨bv, lv, vs, ⟨(h.has.re (fun k hk => ?_)).old hu, h.ref.old hu, h1.base h.upd.size, h2.base h.upd.size, fun k hk hr => ?_, h.upd.trans hu (fun _ _ h => h), h.npos, h.nle, h.rle, ht.symm⟩⟩
  · rcases hk with hk | hk | hk
    · exact .inl (.inl hk)
    · exact .inr (h1.lts hk).1
    · exact .inr (h2.lts hk).1
  · exact absurd (h.ref.lts hr).2 (Nat.not_lt.2 (h2.lts hk).1)
theorem Bs.low {cnt2 : Nat} {bs2 : Nat → Nat} {ps2 : Nat → List (Nat × Int)} {bv lv : Value} {vs : Nat → Value} (h : Bs w0 w s b room n cnt bs ps cnt2 bs2 ps2 l1 l2 v1 v2 q1 q2 m1 m2 bv lv vs) : ∀ k, (RefOf b n bv lv vs k ∨ NestOf l1 v1 m1 k ∨ NestOf l2 v2 m2 k) → k < w.heap.size := fun k hk => by
  rcases hk with hk | hk | hk
  · exact (h.ref.lts hk).2
  · exact (h.n1.lts hk).2
  · exact (h.n2.lts hk).2
theorem Bs.old {cnt2 : Nat} {bs2 : Nat → Nat} {ps2 : Nat → List (Nat × Int)} {bv lv : Value} {vs : Nat → Value} (h : Bs w0 w s b room n cnt bs ps cnt2 bs2 ps2 l1 l2 v1 v2 q1 q2 m1 m2 bv lv vs) (hu : Upd Nowhere w w') : Bs w0 w' s b room n cnt bs ps cnt2 bs2 ps2 l1 l2 v1 v2 q1 q2 m1 m2 bv lv vs :=
  { h with has := h.has.old hu, ref := h.ref.old hu, n1 := h.n1.old hu, n2 := h.n2.old hu, upd := h.upd.trans hu (fun _ _ h => h) }
theorem Bs.pl {cnt : Nat} {bs : Nat → Nat} {ps : Nat → List (Nat × Int)} {bv lv : Value} {vs : Nat → Value} (h : Bs w0 w s b room n cnt bs ps cnt bs ps l1 l2 v1 v2 q1 q2 m1 m2 bv lv vs) : Pl none #[] w0 w s b room n cnt bs ps bs ps :=
  ⟨bv, lv, vs, ⟨h.has.re (fun k hk => by
    rcases hk with hk | hk
    · exact .inl (.inl hk)
    · cases hk), h.ref, h.upd, (fun q hq => by cases hq), h.npos, h.nle, h.rle⟩⟩
/-- The program lays. -/
theorem b_lay {bv lv : Value} {vs : Nat → Value} (h : Bs w0 w s b room n cnt bs ps cnt bs ps l1 l2 v1 v2 q1 q2 n n bv lv vs) (hr1 : 1 ≤ room) {ad : Option Addr} {f : Nat → Nat} (hf : Nums w ad n f) (hf64 : ∀ i, i < n → f i ≤ 18446744073709551615) (hgb : ∀ g, ad = some g → g.block < w0.heap.size) (htot : tot q1 n ≤ 1000000) (ca : Nat) :
    Calls Try.prog 41 #[.pointer (some ⟨s, 0, none⟩), .slice ad n ca, l1] w fun e w' => e = .returned (.int .i64 (layC f q1 n room : Nat)) ∧
      ∃ cnt' bs' ps', Bs w0 w' s b room n cnt' bs' ps' cnt bs ps l1 l2 v1 v2 q1 q2 n n bv lv vs ∧ Nums w' ad n f ∧ (layC f q1 n room ≠ 0 → cnt' = cnt ∧ bs' = bs ∧ ps' = ps) ∧ (layC f q1 n room = 0 → cnt' = tot q1 n ∧ bs' = f ∧ ps' = q1) := by
  refine (lay_any h.has h.low h.npos hr1 hf hf64 hgb h.n1 (fun k hk => .inr (.inl hk)) htot ca).mono ?_
  rintro e w' ⟨rfl, h1, h2⟩
  refine ⟨rfl, ?_⟩
  by_cases hc : layC f q1 n room = 0
  · obtain ⟨h3, h4⟩ := h2 hc
    refine ⟨_, f, q1, ⟨h3, h.ref.kept h4 (fun k hk h5 => h5.2 (.inl hk)), h.n1.kept h4 (fun k hk h5 => h5.2 (.inr (.inl hk))), h.n2.kept h4 (fun k hk h5 => h5.2 (.inr (.inr hk))), h.off, h.upd.trans h4 (fun _ hk h => absurd hk (Nat.not_lt.2 h.1)), h.npos, h.nle, h.rle, h.eqc⟩, ⟨hf.nil, fun g hg i hi => ⟨(hf.cell g hg i hi).1, (h4.cell (b := g.block) _ (Nat.lt_of_lt_of_le (hgb g hg) h.upd.size) (fun h5 => absurd (hgb g hg) (Nat.not_lt.2 h5.1))).trans (hf.cell g hg i hi).2⟩⟩, fun hn => absurd hc hn, fun _ => ⟨rfl, rfl, rfl⟩⟩
  · have h3 := h1 hc
    exact ⟨cnt, bs, ps, h.old h3, hf.old h3, fun _ => ⟨rfl, rfl, rfl⟩, fun h => absurd h hc⟩
/-- The reference lays. -/
theorem r_lay {cnt2 : Nat} {bs2 : Nat → Nat} {ps2 : Nat → List (Nat × Int)} {bv lv : Value} {vs : Nat → Value} (h : Bs w0 w s b room n cnt bs ps cnt2 bs2 ps2 l1 l2 v1 v2 q1 q2 n n bv lv vs) {ad : Option Addr} {f : Nat → Nat} (hf : Nums w ad n f) (hf64 : ∀ i, i < n → f i ≤ 18446744073709551615) (hgb : ∀ g, ad = some g → g.block < w0.heap.size) (htot : tot q2 n ≤ 1000000) (ca : Nat) :
    Calls Try.prog 42 #[.pointer (some ⟨b, 0, none⟩), .slice ad n ca, l2] w fun e w' => e = .returned (.int .i64 (layC f q2 n room : Nat)) ∧
      ∃ bs3 ps3, Pl none #[] w0 w' s b room n cnt bs ps bs3 ps3 ∧ (layC f q2 n room ≠ 0 → bs3 = bs2 ∧ ps3 = ps2) ∧ (layC f q2 n room = 0 → bs3 = f ∧ ps3 = q2) := by
  refine (Ref12.lay_any h.ref h.npos h.nle hf hf64 h.n2 (fun k hk e => h.off k hk (by rw [e]; exact .inl rfl)) htot h.upd.size (fun g hg e => by have := hgb g hg; have := h.ref.low; omega) ca).mono ?_
  rintro e w' ⟨rfl, h1, h2⟩
  refine ⟨rfl, ?_⟩
  by_cases hc : layC f q2 n room = 0
  · obtain ⟨bv', lv', h3, h4, h5⟩ := h2 hc
    have hA : HasA (fun k => Offs b n bv' lv' v2 none k ∨ (RefOf b n bv lv vs k ∨ NestOf l1 v1 n k ∨ NestOf l2 v2 n k)) w0 w s n room cnt bs (upq ps) := h.has.re (fun k hk => by
      rcases hk with hk | hk
      · rcases hk with hk | hk
        · rcases h4 k hk with h6 | h6 | h6
          · exact .inl (.inl (.inl h6))
          · exact .inl (.inr (.inr h6))
          · exact .inr h6
        · cases hk
      · exact .inl hk)
    have hA' := hA.kept h5 (fun k hk _ => .inl (.inr (.inl (.inl hk))))
    exact ⟨f, q2, ⟨bv', lv', v2, ⟨hA'.re (fun k hk => .inl (.inl hk)), h3, h.upd.trans h5 (fun k hk e => by have := h.ref.low; omega), (fun q hq => by cases hq), h.npos, h.nle, h.rle⟩⟩, fun hn => absurd hc hn, fun _ => ⟨rfl, rfl⟩⟩
  · have h3 := h1 hc
    have h4 := h.old h3
    exact ⟨bs2, ps2, ⟨bv, lv, vs, ⟨h4.has.re (fun k hk => by
      rcases hk with hk | hk
      · exact .inl (.inl hk)
      · cases hk), h4.ref, h4.upd, (fun q hq => by cases hq), h.npos, h.nle, h.rle⟩⟩, fun _ => ⟨rfl, rfl⟩, fun h => absurd h hc⟩
end
/-- The law's two nests, beside each other, made since w3. -/
structure Nn (w3 w : World) (l1 l2 : Value) (v1 v2 : Nat → Value) (q : Nat → List (Nat × Int)) (i : Nat) : Prop where
  n1 : Nest TIt TLt w3.heap.size w l1 v1 q i
  n2 : Nest TI TL w3.heap.size w l2 v2 q i
  ap : ∀ k, NestOf l1 v1 i k → ¬ NestOf l2 v2 i k
  kp : Upd Nowhere w3 w
theorem Nn.old {w3 w w' : World} {l1 l2 : Value} {v1 v2 : Nat → Value} {q : Nat → List (Nat × Int)} {i : Nat} (h : Nn w3 w l1 l2 v1 v2 q i) (hu : Upd Nowhere w w') : Nn w3 w' l1 l2 v1 v2 q i :=
  ⟨h.n1.old hu, h.n2.old hu, h.ap, h.kp.trans hu (fun _ _ h => h)⟩
/-- Two rows in the making, beside each other, made since w. -/
structure Tw (w wr : World) (o1 o2 : Value) (l : List (Nat × Int)) : Prop where
  r1 : PRow TIt w.heap.size wr o1 l
  r2 : PRow TI w.heap.size wr o2 l
  ap : ∀ k, o1.ownBlock = some k → o2.ownBlock ≠ some k
  kp : Upd Nowhere w wr
theorem Tw.start (w : World) : Tw w w (.slice none 0 0) (.slice none 0 0) [] := ⟨PRow.nil _ _ _, PRow.nil _ _ _, (fun k h => by cases h), Upd.refl _ _⟩
theorem Tw.old {w wr w' : World} {o1 o2 : Value} {l : List (Nat × Int)} (h : Tw w wr o1 o2 l) (hu : Upd Nowhere wr w') : Tw w w' o1 o2 l :=
  ⟨ownsRow_upd h.r1 hu (fun _ _ h => h), ownsRow_upd h.r2 hu (fun _ _ h => h), h.ap, h.kp.trans hu (fun _ _ h => h)⟩
/-- One thing more in the first row. -/
theorem Tw.one {w wr wx w1 : World} {o1 o2 v : Value} {l : List (Nat × Int)} {m : Nat} (h : Tw w wr o1 o2 l) (hx : Upd Nowhere wr wx) (e : Nat × Int) (hm : l.length = m) (ho : w1.ownsRow w.heap.size TIt 2 v (m + 1) (pcs l ++ [.int .u64 (e.1 : Nat), .int .i64 e.2])) (hu : Upd (fun k => o1.ownBlock = some k) wx w1) (hn : OwnOrNew wx o1 v) :
    PRow TIt w.heap.size w1 v (l ++ [e]) ∧ PRow TI w.heap.size w1 o2 l ∧ (∀ k, v.ownBlock = some k → o2.ownBlock ≠ some k) ∧ Upd Nowhere w w1 := by
  refine ⟨PRow.push e (by rw [hm]) ho, ownsRow_upd (ownsRow_upd h.r2 hx (fun _ _ h => h)) hu (fun k hk e => h.ap k e hk), fun k hk hk2 => ?_, (h.kp.trans hx (fun _ _ h => h)).trans hu (fun k hk hk2 => absurd hk (Nat.not_lt.2 (h.r1.lt k hk2).1))⟩
  rcases hn k hk with h1 | h1
  · exact h.ap k h1 hk2
  · exact absurd (h.r2.lt k hk2).2 (Nat.not_lt.2 (Nat.le_trans hx.size h1))
/-- And one in the second. -/
theorem Tw.two {w wr wx w1 : World} {o1 o2 v : Value} {l l' : List (Nat × Int)} {m : Nat} (r1 : PRow TIt w.heap.size wr o1 l') (r2 : PRow TI w.heap.size wr o2 l) (ap : ∀ k, o1.ownBlock = some k → o2.ownBlock ≠ some k) (hu0 : Upd Nowhere w wr) (hx : Upd Nowhere wr wx) (e : Nat × Int) (hl' : l' = l ++ [e]) (hm : l.length = m) (ho : w1.ownsRow w.heap.size TI 2 v (m + 1) (pcs l ++ [.int .u64 (e.1 : Nat), .int .i64 e.2])) (hu : Upd (fun k => o2.ownBlock = some k) wx w1) (hn : OwnOrNew wx o2 v) :
    Tw w w1 o1 v l' := by
  refine ⟨ownsRow_upd (ownsRow_upd r1 hx (fun _ _ h => h)) hu (fun k hk e => ap k hk e), by rw [hl']; exact PRow.push e (by rw [hm]) ho, fun k hk hk2 => ?_, (hu0.trans hx (fun _ _ h => h)).trans hu (fun k hk hk2 => absurd hk (Nat.not_lt.2 (r2.lt k hk2).1))⟩
  rcases hn k hk2 with h1 | h1
  · exact ap k hk h1
  · exact absurd (r1.lt k hk).2 (Nat.not_lt.2 (Nat.le_trans hx.size h1))
/-- A row more in each nest. -/
theorem Nn.push {w3 wO w wx w1 wy w2 : World} {l1 l2 l1' l2' o1 o2 : Value} {v1 v2 : Nat → Value} {q : Nat → List (Nat × Int)} {i : Nat} {l : List (Nat × Int)} (h : Nn w3 wO l1 l2 v1 v2 q i) (ht : Tw wO w o1 o2 l) (hx : Upd Nowhere w wx)
    (ho1 : w1.ownsRow w3.heap.size TLt 1 l1' (i + 1) (Ref12.vals v1 i ++ [o1])) (hu1 : Upd (fun k => l1.ownBlock = some k) wx w1) (hn1 : OwnOrNew wx l1 l1') (hy : Upd Nowhere w1 wy)
    (ho2 : w2.ownsRow w3.heap.size TL 1 l2' (i + 1) (Ref12.vals v2 i ++ [o2])) (hu2 : Upd (fun k => l2.ownBlock = some k) wy w2) (hn2 : OwnOrNew wy l2 l2') :
    Nn w3 w2 l1' l2' (upd v1 i o1) (upd v2 i o2) (upd q i l) (i + 1) := by
  have hOx : Upd Nowhere wO wx := ht.kp.trans hx (fun _ _ h => h)
  have hlt1 : ∀ k, NestOf l1 v1 i k → k < wO.heap.size := fun k hk => (h.n1.lts hk).2
  have hlt2 : ∀ k, NestOf l2 v2 i k → k < wO.heap.size := fun k hk => (h.n2.lts hk).2
  have hB : w3.heap.size ≤ wO.heap.size := h.kp.size
  have hr1 : PRow TIt w3.heap.size w o1 l := ownsRow_base ht.r1 hB
  have hr2 : PRow TI w3.heap.size w o2 l := ownsRow_base ht.r2 hB
  obtain ⟨p1, p2⟩ := (h.n1.old ht.kp).push hr1 (fun k hk hk2 => absurd (hlt1 k (.inl hk2)) (Nat.not_lt.2 (ht.r1.lt k hk).1)) hx hu1 ho1 hn1
  have hn2w1 : Nest TI TL w3.heap.size w1 l2 v2 q i := ((h.n2.old ht.kp).old hx).kept hu1 (fun k hk e => h.ap k (.inl e) hk)
  have hr2w1 : PRow TI w3.heap.size w1 o2 l := ownsRow_upd (ownsRow_upd hr2 hx (fun _ _ h => h)) hu1 (fun k hk e => absurd (hlt1 k (.inl e)) (Nat.not_lt.2 (ht.r2.lt k hk).1))
  obtain ⟨s1, s2⟩ := hn2w1.push hr2w1 (fun k hk hk2 => absurd (hlt2 k (.inl hk2)) (Nat.not_lt.2 (ht.r2.lt k hk).1)) hy hu2 ho2 hn2
  have hl2n : ∀ k, NestOf l1' (upd v1 i o1) (i + 1) k → l2.ownBlock ≠ some k := fun k hk e => by
    rcases p2 k hk with h1 | h1 | h1
    · exact h.ap k h1 (.inl e)
    · exact absurd (hlt2 k (.inl e)) (Nat.not_lt.2 (ht.r1.lt k h1).1)
    · have := hlt2 k (.inl e); have := hOx.size; omega
  refine ⟨(p1.old hy).kept hu2 hl2n, s1, fun k hk hk2 => ?_, ((((h.kp.trans hOx (fun _ _ h => h)).trans hu1 (fun k hk e => absurd hk (Nat.not_lt.2 (h.n1.lts (.inl e)).1))).trans hy (fun _ _ h => h)).trans hu2 (fun k hk e => absurd hk (Nat.not_lt.2 (h.n2.lts (.inl e)).1)))⟩
  have hk1 := (p1.lts hk).2
  rcases s2 k hk2 with h2 | h2 | h2
  · rcases p2 k hk with h1 | h1 | h1
    · exact h.ap k h1 h2
    · exact absurd (hlt2 k h2) (Nat.not_lt.2 (ht.r1.lt k h1).1)
    · have := hlt2 k h2; have := hOx.size; omega
  · rcases p2 k hk with h1 | h1 | h1
    · exact absurd (hlt1 k h1) (Nat.not_lt.2 (ht.r2.lt k h2).1)
    · exact ht.ap k h1 h2
    · have := (ht.r2.lt k h2).2; have := hx.size; omega
  · have := hy.size; omega
end Go.Proofs.Ytopibbaopglggaa.SpI
