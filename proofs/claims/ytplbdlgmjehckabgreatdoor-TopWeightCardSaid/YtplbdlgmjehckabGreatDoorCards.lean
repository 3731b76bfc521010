/-
  DERIVED. GIVEN WITH THE SEED: THE CARDS: each row of YtplbdlgmjehckabGreatDoorRows.lean that lists a variable, with what it lists TIED to the program's text (the seventh form; the later family's looks); each row that meets fmt, with fmt's text TOLD by the authors' own Lean function (tested against real Go, not proved from fmt's source: count such statements apart). THE CARD IS WHAT COUNTS. Prove the row's statement (the work); the ties are given (YtplbdlgmjehckabGreatDoorTie.lean); close each card by the builder's one call (the guide's Derived/Test/ToyasCard.lean, 'card_holds'). Laid BY PROGRAM, IN A SANDBOX (cutbox-door.mjs). By AI agents, Wed Nov 11 2026. No macro, syntax, notation, axiom, sorry.
-/
import Derived.Test.YtplbdlgmjehckabGreatDoorRows
import GoSem.ClaimSeven
namespace Go.Proofs.YtplbdlgmjehckabGreatDoor
namespace Rows

/-- THE TIED CARD OF 'inktop.TopWeight'. -/
def topWeightCard : Claim7 := { stood := { row := topWeightRow, standIns := [], harness := (true, "036767a35f31746610014ae84afa2087af10defa3cd816d58cce4aac6118bf0e"), looks := true }, kinds := [], alts := [], laidByText := true, laidKinds := [.data, .pinned], laidTests := true, laidLooks := .later }
def TopWeightCardSaid : Prop := Claim7.holds Tryz.pinned (.plain (OpenSpec.ofChange topWeightSpec)) topWeightCard

/-- THE TIED CARD OF 'inktop.TopStrong'. -/
def topStrongCard : Claim7 := { stood := { row := topStrongRow, standIns := [], harness := (true, "036767a35f31746610014ae84afa2087af10defa3cd816d58cce4aac6118bf0e"), looks := true }, kinds := [], alts := [], laidByText := true, laidKinds := [.data, .pinned], laidTests := true, laidLooks := .later }
def TopStrongCardSaid : Prop := Claim7.holds Tryz.pinned (.plain (OpenSpec.ofChange topStrongSpec)) topStrongCard

/-- THE TIED CARD OF 'inklaw5.CascadeTells'. -/
def cascadeTellsCard : Claim7 := { stood := { row := cascadeTellsRow, standIns := [], harness := (true, "036767a35f31746610014ae84afa2087af10defa3cd816d58cce4aac6118bf0e"), looks := true }, kinds := [], alts := [], laidByText := true, laidKinds := [.data, .pinned], laidTests := true, laidLooks := .later }
def CascadeTellsCardSaid : Prop := Claim7.holds Tryz.pinned (.plain (OpenSpec.ofChange cascadeTellsSpec)) cascadeTellsCard

/-- THE SECOND FORM's CARD OF 'inktop.TopWeight'. -/
def topWeightUptoCard : Claim7 := { stood := { row := topWeightUptoRow, standIns := [], harness := (true, "036767a35f31746610014ae84afa2087af10defa3cd816d58cce4aac6118bf0e"), looks := true }, kinds := [], alts := [], laidByText := true, laidKinds := [.data, .pinned], laidTests := true, laidLooks := .later }
def TopWeightUptoCardSaid : Prop := Claim7.holds Tryz.pinned (.plain (OpenSpec.upto topWeightSpec)) topWeightUptoCard

/-- THE SECOND FORM's CARD OF 'inktop.TopStrong'. -/
def topStrongUptoCard : Claim7 := { stood := { row := topStrongUptoRow, standIns := [], harness := (true, "036767a35f31746610014ae84afa2087af10defa3cd816d58cce4aac6118bf0e"), looks := true }, kinds := [], alts := [], laidByText := true, laidKinds := [.data, .pinned], laidTests := true, laidLooks := .later }
def TopStrongUptoCardSaid : Prop := Claim7.holds Tryz.pinned (.plain (OpenSpec.upto topStrongSpec)) topStrongUptoCard

/-- THE SECOND FORM's CARD OF 'inklaw5.CascadeTells'. -/
def cascadeTellsUptoCard : Claim7 := { stood := { row := cascadeTellsUptoRow, standIns := [], harness := (true, "036767a35f31746610014ae84afa2087af10defa3cd816d58cce4aac6118bf0e"), looks := true }, kinds := [], alts := [], laidByText := true, laidKinds := [.data, .pinned], laidTests := true, laidLooks := .later }
def CascadeTellsUptoCardSaid : Prop := Claim7.holds Tryz.pinned (.plain (OpenSpec.upto cascadeTellsSpec)) cascadeTellsUptoCard
end Rows
end Go.Proofs.YtplbdlgmjehckabGreatDoor
