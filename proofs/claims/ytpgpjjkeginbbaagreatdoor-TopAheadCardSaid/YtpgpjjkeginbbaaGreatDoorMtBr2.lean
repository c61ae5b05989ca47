/- Br2, Br3, one behind the other. -/
import Derived.Test.YtpgpjjkeginbbaaGreatDoorMtBr1
import Derived.Test.YtpgpjjkeginbbaaGreatDoorMtOne
import Derived.Test.YtpgpjjkeginbbaaGreatDoorMtSh8
import Derived.Test.YtpgpjjkeginbbaaGreatDoorMtTr2
namespace Go.Proofs.YtpgpjjkeginbbaaGreatDoor.Br
open Go.RowKit Go.Proofs BigFrame
set_option linter.unusedSimpArgs false
/-- A step. -/
structure Stp where
 leave : Bool
 flow : Int
 len : Nat
def stL (x : Stp) : List Value := [.bool x.leave, .int .i64 x.flow, .int .u64 (x.len : Nat)]
def StpsIn (w : World) (ad : Option Addr) (l : List Stp) : Prop := ∀ (k : Nat) (x : Stp), l[k]? = some x → ∃ g o, ad = some ⟨g, o, none⟩ ∧ w.cell? ⟨g, o + k * 3, none⟩ = some (.bool x.leave) ∧ w.cell? ⟨g, o + k * 3 + 1, none⟩ = some (.int .i64 x.flow) ∧ w.cell? ⟨g, o + k * 3 + 2, none⟩ = some (.int .u64 (x.len : Nat))
theorem StpsIn.old {w w' : World} {ad : Option Addr} {l : List Stp} (h : StpsIn w ad l) (hu : Upd Nowhere w w') : StpsIn w' ad l := fun k f hf => by
 obtain ⟨g, o, e, c0, c1, c2⟩ := h k f hf
 exact ⟨g, o, e, cell_old hu c0, cell_old hu c1, cell_old hu c2⟩
theorem stps_of {w : World} {v : Value} {l : List Stp} (h : RowsAt w v l.length (l.flatMap stL)) : ∃ ad c, v = .slice ad l.length c ∧ StpsIn w ad l := by
 obtain ⟨ad, c, h1, _, h2⟩ := Shm.rows_get (f := stL) (C := 3) (fun _ => rfl) (by omega) h
 refine ⟨ad, c, h1, fun k f hf => ?_⟩
 obtain ⟨g, o, e, h4⟩ := h2 k f hf
 exact ⟨g, o, e, h4 0 _ rfl, h4 1 _ rfl, h4 2 _ rfl⟩
end Go.Proofs.YtpgpjjkeginbbaaGreatDoor.Br
