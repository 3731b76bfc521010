/-
  DERIVED. GIVEN WITH THE SEED: THE CARDS: each row of YtplbdlgmjehckacDoorRows.lean that lists a variable, with what it lists TIED to the program's text (the seventh form; the later family's looks); each row that meets fmt, with fmt's text TOLD by the authors' own Lean function (tested against real Go, not proved from fmt's source: count such statements apart). THE CARD IS WHAT COUNTS. Prove the row's statement (the work); the ties are given (YtplbdlgmjehckacDoorTie.lean); close each card by the builder's one call (the guide's Derived/Test/ToyasCard.lean, 'card_holds'). Laid BY PROGRAM, IN A SANDBOX (cutbox-door.mjs). By AI agents, Wed Nov 11 2026. No macro, syntax, notation, axiom, sorry.
-/
import Derived.Test.YtplbdlgmjehckacDoorRows
import GoSem.ClaimSeven
namespace Go.Proofs.YtplbdlgmjehckacDoor
namespace Rows

/-- THE TIED CARD OF 'inklaw5.CascadeMedia'. -/
def cascadeMediaCard : Claim7 := { stood := { row := cascadeMediaRow, standIns := [], harness := (true, "12201b7371e7793e8734f0f12c76c46a64c70c9920eab4428a343b72076ca088"), looks := true }, kinds := [], alts := [], laidByText := true, laidKinds := [.data, .pinned], laidTests := true, laidLooks := .later }
def CascadeMediaCardSaid : Prop := Claim7.holds Tryd.pinned (.plain (OpenSpec.ofChange cascadeMediaSpec)) cascadeMediaCard

/-- THE TIED CARD OF 'inklaw5.CascadeSplit'. -/
def cascadeSplitCard : Claim7 := { stood := { row := cascadeSplitRow, standIns := [], harness := (true, "12201b7371e7793e8734f0f12c76c46a64c70c9920eab4428a343b72076ca088"), looks := true }, kinds := [], alts := [], laidByText := true, laidKinds := [.data, .pinned], laidTests := true, laidLooks := .later }
def CascadeSplitCardSaid : Prop := Claim7.holds Tryd.pinned (.plain (OpenSpec.ofChange cascadeSplitSpec)) cascadeSplitCard

/-- THE SECOND FORM's CARD OF 'inklaw5.CascadeMedia'. -/
def cascadeMediaUptoCard : Claim7 := { stood := { row := cascadeMediaUptoRow, standIns := [], harness := (true, "12201b7371e7793e8734f0f12c76c46a64c70c9920eab4428a343b72076ca088"), looks := true }, kinds := [], alts := [], laidByText := true, laidKinds := [.data, .pinned], laidTests := true, laidLooks := .later }
def CascadeMediaUptoCardSaid : Prop := Claim7.holds Tryd.pinned (.plain (OpenSpec.upto cascadeMediaSpec)) cascadeMediaUptoCard

/-- THE SECOND FORM's CARD OF 'inklaw5.CascadeSplit'. -/
def cascadeSplitUptoCard : Claim7 := { stood := { row := cascadeSplitUptoRow, standIns := [], harness := (true, "12201b7371e7793e8734f0f12c76c46a64c70c9920eab4428a343b72076ca088"), looks := true }, kinds := [], alts := [], laidByText := true, laidKinds := [.data, .pinned], laidTests := true, laidLooks := .later }
def CascadeSplitUptoCardSaid : Prop := Claim7.holds Tryd.pinned (.plain (OpenSpec.upto cascadeSplitSpec)) cascadeSplitUptoCard
end Rows
end Go.Proofs.YtplbdlgmjehckacDoor
