/-
  DERIVED. GIVEN WITH THE SEED: THE CARDS: each row of YtplbdlgmjehckabDoorRows.lean that lists a variable, with what it lists TIED to the program's text (the seventh form; the later family's looks); each row that meets fmt, with fmt's text TOLD by the authors' own Lean function (tested against real Go, not proved from fmt's source: count such statements apart). THE CARD IS WHAT COUNTS. Prove the row's statement (the work); the ties are given (YtplbdlgmjehckabDoorTie.lean); close each card by the builder's one call (the guide's Derived/Test/ToyasCard.lean, 'card_holds'). Laid BY PROGRAM, IN A SANDBOX (cutbox-door.mjs). By AI agents, Wed Nov 11 2026. No macro, syntax, notation, axiom, sorry.
-/
import Derived.Test.YtplbdlgmjehckabDoorRows
import GoSem.ClaimSeven
namespace Go.Proofs.YtplbdlgmjehckabDoor
namespace Rows

/-- THE TIED CARD OF 'inklaw5.CascadeOrder'. -/
def cascadeOrderCard : Claim7 := { stood := { row := cascadeOrderRow, standIns := [], harness := (true, "4b2b85f608da38c311aad3ca83d349934df5357af7f10472db6b53f2b3bb582e"), looks := true }, kinds := [], alts := [], laidByText := true, laidKinds := [.data, .pinned], laidTests := true, laidLooks := .later }
def CascadeOrderCardSaid : Prop := Claim7.holds Tryd.pinned (.plain (OpenSpec.ofChange cascadeOrderSpec)) cascadeOrderCard

/-- THE TIED CARD OF 'inklaw5.CascadeStrong'. -/
def cascadeStrongCard : Claim7 := { stood := { row := cascadeStrongRow, standIns := [], harness := (true, "4b2b85f608da38c311aad3ca83d349934df5357af7f10472db6b53f2b3bb582e"), looks := true }, kinds := [], alts := [], laidByText := true, laidKinds := [.data, .pinned], laidTests := true, laidLooks := .later }
def CascadeStrongCardSaid : Prop := Claim7.holds Tryd.pinned (.plain (OpenSpec.ofChange cascadeStrongSpec)) cascadeStrongCard

/-- THE TIED CARD OF 'inklaw5.CascadeInherits'. -/
def cascadeInheritsCard : Claim7 := { stood := { row := cascadeInheritsRow, standIns := [], harness := (true, "4b2b85f608da38c311aad3ca83d349934df5357af7f10472db6b53f2b3bb582e"), looks := true }, kinds := [], alts := [], laidByText := true, laidKinds := [.data, .pinned], laidTests := true, laidLooks := .later }
def CascadeInheritsCardSaid : Prop := Claim7.holds Tryd.pinned (.plain (OpenSpec.ofChange cascadeInheritsSpec)) cascadeInheritsCard

/-- THE SECOND FORM's CARD OF 'inklaw5.CascadeOrder'. -/
def cascadeOrderUptoCard : Claim7 := { stood := { row := cascadeOrderUptoRow, standIns := [], harness := (true, "4b2b85f608da38c311aad3ca83d349934df5357af7f10472db6b53f2b3bb582e"), looks := true }, kinds := [], alts := [], laidByText := true, laidKinds := [.data, .pinned], laidTests := true, laidLooks := .later }
def CascadeOrderUptoCardSaid : Prop := Claim7.holds Tryd.pinned (.plain (OpenSpec.upto cascadeOrderSpec)) cascadeOrderUptoCard

/-- THE SECOND FORM's CARD OF 'inklaw5.CascadeStrong'. -/
def cascadeStrongUptoCard : Claim7 := { stood := { row := cascadeStrongUptoRow, standIns := [], harness := (true, "4b2b85f608da38c311aad3ca83d349934df5357af7f10472db6b53f2b3bb582e"), looks := true }, kinds := [], alts := [], laidByText := true, laidKinds := [.data, .pinned], laidTests := true, laidLooks := .later }
def CascadeStrongUptoCardSaid : Prop := Claim7.holds Tryd.pinned (.plain (OpenSpec.upto cascadeStrongSpec)) cascadeStrongUptoCard

/-- THE SECOND FORM's CARD OF 'inklaw5.CascadeInherits'. -/
def cascadeInheritsUptoCard : Claim7 := { stood := { row := cascadeInheritsUptoRow, standIns := [], harness := (true, "4b2b85f608da38c311aad3ca83d349934df5357af7f10472db6b53f2b3bb582e"), looks := true }, kinds := [], alts := [], laidByText := true, laidKinds := [.data, .pinned], laidTests := true, laidLooks := .later }
def CascadeInheritsUptoCardSaid : Prop := Claim7.holds Tryd.pinned (.plain (OpenSpec.upto cascadeInheritsSpec)) cascadeInheritsUptoCard
end Rows
end Go.Proofs.YtplbdlgmjehckabDoor
