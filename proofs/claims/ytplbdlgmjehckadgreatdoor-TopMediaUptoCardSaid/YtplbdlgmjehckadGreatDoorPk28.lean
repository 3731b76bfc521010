/-
  Lemmas for the claims of this seat: the program's functions walked, and plain laws. In this order: CdFrame.
-/
import Derived.Test.YtplbdlgmjehckadGreatDoorPk10
import Derived.Test.YtplbdlgmjehckadGreatDoorPk18
import Derived.Test.YtplbdlgmjehckadGreatDoorTie
import Derived.Test.YtplbdlgmjehckadGreatDoorCards
import Derived.HandedShaped
import Derived.ProofKit
import Derived.Shelf.Vars
import Derived.Deep.DeepHandedRow
import Derived.Deep.DeepWitnessRowRef
namespace Go.Proofs.YtplbdlgmjehckadGreatDoor
open Go.RowKit Go.ChangeShapes Go.WideShapes Go.ChangeAt Go.ChangeMaps
theorem own : ownKnob Tryz.prog.godebug = none := by kernel_rfl
theorem laidOut : laidOutB Tryz.prog = true := by kernel_rfl
theorem maxLen_room (W : World) (hsh : W.ShapedOpen Tryz.prog) : ∃ m, W.cell? ⟨0, 0, none⟩ = some (.int .i64 m) :=
  cell_of_shapedOpen_int (zero := #[.int .i64 0]) (t := 3) hsh (of_decide_eq_true (by kernel_rfl)) (by kernel_rfl) rfl (by kernel_rfl) (by kernel_rfl) Tryz.underlying3
def u8Cell (n : Nat) : Value := .int .u8 (n : Int)
def acceptCells : Array Value := (List.map u8Cell [128, 191, 160, 191, 128, 159, 144, 191, 128, 143, 0, 0, 0, 0, 0, 0, 0, 0, 0, 0, 0, 0, 0, 0, 0, 0, 0, 0, 0, 0, 0, 0]).toArray
def firstCells : Array Value := (List.map u8Cell Go.Pinned.utf8FirstZ).toArray
def laidIn (cs : Array Value) : Obj → Obj
  | .cells _ t frozen => .cells cs t frozen
  | o => o
noncomputable def laidWorld (os : Os) : World :=
  { World.holding Tryz.prog os ⟨#[], #[], []⟩ with heap := ((World.holding Tryz.prog os ⟨#[], #[], []⟩).heap.modify 1 (laidIn firstCells)).modify 2 (laidIn acceptCells) }
theorem bulk_bound {H : Type} {ds : List (DataW H)} (hk : Rows.uptoSmall H ds = true) : Rows.uptoBulkAll ds ≤ 1048576 := of_decide_eq_true hk
end Go.Proofs.YtplbdlgmjehckadGreatDoor

