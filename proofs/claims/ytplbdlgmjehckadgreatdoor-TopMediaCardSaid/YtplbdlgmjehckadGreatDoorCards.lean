/-
  DERIVED. GIVEN WITH THE SEED: THE CARDS: each row of YtplbdlgmjehckadGreatDoorRows.lean that lists a variable, with what it lists TIED to the program's text (the seventh form; the later family's looks); each row that meets fmt, with fmt's text TOLD by the authors' own Lean function (tested against real Go, not proved from fmt's source: count such statements apart). THE CARD IS WHAT COUNTS. Prove the row's statement (the work); the ties are given (YtplbdlgmjehckadGreatDoorTie.lean); close each card by the builder's one call (the guide's Derived/Test/ToyasCard.lean, 'card_holds'). Laid BY PROGRAM, IN A SANDBOX (cutbox-door.mjs). By AI agents, Wed Nov 11 2026. No macro, syntax, notation, axiom, sorry.
-/
import Derived.Test.YtplbdlgmjehckadGreatDoorRows
import GoSem.ClaimSeven
namespace Go.Proofs.YtplbdlgmjehckadGreatDoor
namespace Rows

/-- THE TIED CARD OF 'inktop.TopMedia'. -/
def topMediaCard : Claim7 := { stood := { row := topMediaRow, standIns := [], harness := (true, "208d5ecaf357bd39387abb1e87f24100d2efbe4dd24c6c781fdd3b7a9f78b80a"), looks := true }, kinds := [], alts := [], laidByText := true, laidKinds := [.data, .pinned], laidTests := true, laidLooks := .later }
def TopMediaCardSaid : Prop := Claim7.holds Tryz.pinned (.plain (OpenSpec.ofChange topMediaSpec)) topMediaCard

/-- THE SECOND FORM's CARD OF 'inktop.TopMedia'. -/
def topMediaUptoCard : Claim7 := { stood := { row := topMediaUptoRow, standIns := [], harness := (true, "208d5ecaf357bd39387abb1e87f24100d2efbe4dd24c6c781fdd3b7a9f78b80a"), looks := true }, kinds := [], alts := [], laidByText := true, laidKinds := [.data, .pinned], laidTests := true, laidLooks := .later }
def TopMediaUptoCardSaid : Prop := Claim7.holds Tryz.pinned (.plain (OpenSpec.upto topMediaSpec)) topMediaUptoCard
end Rows
end Go.Proofs.YtplbdlgmjehckadGreatDoor
