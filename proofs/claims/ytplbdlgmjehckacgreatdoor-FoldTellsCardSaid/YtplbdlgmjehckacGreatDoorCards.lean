/-
  DERIVED. GIVEN WITH THE SEED: THE CARDS: each row of YtplbdlgmjehckacGreatDoorRows.lean that lists a variable, with what it lists TIED to the program's text (the seventh form; the later family's looks); each row that meets fmt, with fmt's text TOLD by the authors' own Lean function (tested against real Go, not proved from fmt's source: count such statements apart). THE CARD IS WHAT COUNTS. Prove the row's statement (the work); the ties are given (YtplbdlgmjehckacGreatDoorTie.lean); close each card by the builder's one call (the guide's Derived/Test/ToyasCard.lean, 'card_holds'). Laid BY PROGRAM, IN A SANDBOX (cutbox-door.mjs). By AI agents, Wed Nov 11 2026. No macro, syntax, notation, axiom, sorry.
-/
import Derived.Test.YtplbdlgmjehckacGreatDoorRows
import GoSem.ClaimSeven
namespace Go.Proofs.YtplbdlgmjehckacGreatDoor
namespace Rows

/-- THE TIED CARD OF 'inklaw6.FoldTells'. -/
def foldTellsCard : Claim7 := { stood := { row := foldTellsRow, standIns := [], harness := (true, "20d880a8883b7cbf1f07d67c9665880a459b4e6005914a477a143e9ea2b104b8"), looks := true }, kinds := [], alts := [], laidByText := true, laidKinds := [.data, .pinned], laidTests := true, laidLooks := .later }
def FoldTellsCardSaid : Prop := Claim7.holds Tryz.pinned (.plain (OpenSpec.ofChange foldTellsSpec)) foldTellsCard

/-- THE TIED CARD OF 'inklaw6.FoldTwice'. -/
def foldTwiceCard : Claim7 := { stood := { row := foldTwiceRow, standIns := [], harness := (true, "20d880a8883b7cbf1f07d67c9665880a459b4e6005914a477a143e9ea2b104b8"), looks := true }, kinds := [], alts := [], laidByText := true, laidKinds := [.data, .pinned], laidTests := true, laidLooks := .later }
def FoldTwiceCardSaid : Prop := Claim7.holds Tryz.pinned (.plain (OpenSpec.ofChange foldTwiceSpec)) foldTwiceCard

/-- THE TIED CARD OF 'inklaw6.FoldKeeps'. -/
def foldKeepsCard : Claim7 := { stood := { row := foldKeepsRow, standIns := [], harness := (true, "20d880a8883b7cbf1f07d67c9665880a459b4e6005914a477a143e9ea2b104b8"), looks := true }, kinds := [], alts := [], laidByText := true, laidKinds := [.data, .pinned], laidTests := true, laidLooks := .later }
def FoldKeepsCardSaid : Prop := Claim7.holds Tryz.pinned (.plain (OpenSpec.ofChange foldKeepsSpec)) foldKeepsCard

/-- THE TIED CARD OF 'inklaw6.FoldGone'. -/
def foldGoneCard : Claim7 := { stood := { row := foldGoneRow, standIns := [], harness := (true, "20d880a8883b7cbf1f07d67c9665880a459b4e6005914a477a143e9ea2b104b8"), looks := true }, kinds := [], alts := [], laidByText := true, laidKinds := [.data, .pinned], laidTests := true, laidLooks := .later }
def FoldGoneCardSaid : Prop := Claim7.holds Tryz.pinned (.plain (OpenSpec.ofChange foldGoneSpec)) foldGoneCard

/-- THE TIED CARD OF 'inklaw6.FoldAlone'. -/
def foldAloneCard : Claim7 := { stood := { row := foldAloneRow, standIns := [], harness := (true, "20d880a8883b7cbf1f07d67c9665880a459b4e6005914a477a143e9ea2b104b8"), looks := true }, kinds := [], alts := [], laidByText := true, laidKinds := [.data, .pinned], laidTests := true, laidLooks := .later }
def FoldAloneCardSaid : Prop := Claim7.holds Tryz.pinned (.plain (OpenSpec.ofChange foldAloneSpec)) foldAloneCard

/-- THE TIED CARD OF 'inklaw6.FoldPlaces'. -/
def foldPlacesCard : Claim7 := { stood := { row := foldPlacesRow, standIns := [], harness := (true, "20d880a8883b7cbf1f07d67c9665880a459b4e6005914a477a143e9ea2b104b8"), looks := true }, kinds := [], alts := [], laidByText := true, laidKinds := [.data, .pinned], laidTests := true, laidLooks := .later }
def FoldPlacesCardSaid : Prop := Claim7.holds Tryz.pinned (.plain (OpenSpec.ofChange foldPlacesSpec)) foldPlacesCard

/-- THE TIED CARD OF 'inklaw6.FoldSame'. -/
def foldSameCard : Claim7 := { stood := { row := foldSameRow, standIns := [], harness := (true, "20d880a8883b7cbf1f07d67c9665880a459b4e6005914a477a143e9ea2b104b8"), looks := true }, kinds := [], alts := [], laidByText := true, laidKinds := [.data, .pinned], laidTests := true, laidLooks := .later }
def FoldSameCardSaid : Prop := Claim7.holds Tryz.pinned (.plain (OpenSpec.ofChange foldSameSpec)) foldSameCard

/-- THE TIED CARD OF 'inktop.TopEdge'. -/
def topEdgeCard : Claim7 := { stood := { row := topEdgeRow, standIns := [], harness := (true, "20d880a8883b7cbf1f07d67c9665880a459b4e6005914a477a143e9ea2b104b8"), looks := true }, kinds := [], alts := [], laidByText := true, laidKinds := [.data, .pinned], laidTests := true, laidLooks := .later }
def TopEdgeCardSaid : Prop := Claim7.holds Tryz.pinned (.plain (OpenSpec.ofChange topEdgeSpec)) topEdgeCard

/-- THE TIED CARD OF 'inktop.TopWhere'. -/
def topWhereCard : Claim7 := { stood := { row := topWhereRow, standIns := [], harness := (true, "20d880a8883b7cbf1f07d67c9665880a459b4e6005914a477a143e9ea2b104b8"), looks := true }, kinds := [], alts := [], laidByText := true, laidKinds := [.data, .pinned], laidTests := true, laidLooks := .later }
def TopWhereCardSaid : Prop := Claim7.holds Tryz.pinned (.plain (OpenSpec.ofChange topWhereSpec)) topWhereCard

/-- THE TIED CARD OF 'inktop.TopOwn'. -/
def topOwnCard : Claim7 := { stood := { row := topOwnRow, standIns := [], harness := (true, "20d880a8883b7cbf1f07d67c9665880a459b4e6005914a477a143e9ea2b104b8"), looks := true }, kinds := [], alts := [], laidByText := true, laidKinds := [.data, .pinned], laidTests := true, laidLooks := .later }
def TopOwnCardSaid : Prop := Claim7.holds Tryz.pinned (.plain (OpenSpec.ofChange topOwnSpec)) topOwnCard

/-- THE SECOND FORM's CARD OF 'inklaw6.FoldTells'. -/
def foldTellsUptoCard : Claim7 := { stood := { row := foldTellsUptoRow, standIns := [], harness := (true, "20d880a8883b7cbf1f07d67c9665880a459b4e6005914a477a143e9ea2b104b8"), looks := true }, kinds := [], alts := [], laidByText := true, laidKinds := [.data, .pinned], laidTests := true, laidLooks := .later }
def FoldTellsUptoCardSaid : Prop := Claim7.holds Tryz.pinned (.plain (OpenSpec.upto foldTellsSpec)) foldTellsUptoCard

/-- THE SECOND FORM's CARD OF 'inklaw6.FoldTwice'. -/
def foldTwiceUptoCard : Claim7 := { stood := { row := foldTwiceUptoRow, standIns := [], harness := (true, "20d880a8883b7cbf1f07d67c9665880a459b4e6005914a477a143e9ea2b104b8"), looks := true }, kinds := [], alts := [], laidByText := true, laidKinds := [.data, .pinned], laidTests := true, laidLooks := .later }
def FoldTwiceUptoCardSaid : Prop := Claim7.holds Tryz.pinned (.plain (OpenSpec.upto foldTwiceSpec)) foldTwiceUptoCard

/-- THE SECOND FORM's CARD OF 'inklaw6.FoldKeeps'. -/
def foldKeepsUptoCard : Claim7 := { stood := { row := foldKeepsUptoRow, standIns := [], harness := (true, "20d880a8883b7cbf1f07d67c9665880a459b4e6005914a477a143e9ea2b104b8"), looks := true }, kinds := [], alts := [], laidByText := true, laidKinds := [.data, .pinned], laidTests := true, laidLooks := .later }
def FoldKeepsUptoCardSaid : Prop := Claim7.holds Tryz.pinned (.plain (OpenSpec.upto foldKeepsSpec)) foldKeepsUptoCard

/-- THE SECOND FORM's CARD OF 'inklaw6.FoldGone'. -/
def foldGoneUptoCard : Claim7 := { stood := { row := foldGoneUptoRow, standIns := [], harness := (true, "20d880a8883b7cbf1f07d67c9665880a459b4e6005914a477a143e9ea2b104b8"), looks := true }, kinds := [], alts := [], laidByText := true, laidKinds := [.data, .pinned], laidTests := true, laidLooks := .later }
def FoldGoneUptoCardSaid : Prop := Claim7.holds Tryz.pinned (.plain (OpenSpec.upto foldGoneSpec)) foldGoneUptoCard

/-- THE SECOND FORM's CARD OF 'inklaw6.FoldAlone'. -/
def foldAloneUptoCard : Claim7 := { stood := { row := foldAloneUptoRow, standIns := [], harness := (true, "20d880a8883b7cbf1f07d67c9665880a459b4e6005914a477a143e9ea2b104b8"), looks := true }, kinds := [], alts := [], laidByText := true, laidKinds := [.data, .pinned], laidTests := true, laidLooks := .later }
def FoldAloneUptoCardSaid : Prop := Claim7.holds Tryz.pinned (.plain (OpenSpec.upto foldAloneSpec)) foldAloneUptoCard

/-- THE SECOND FORM's CARD OF 'inklaw6.FoldPlaces'. -/
def foldPlacesUptoCard : Claim7 := { stood := { row := foldPlacesUptoRow, standIns := [], harness := (true, "20d880a8883b7cbf1f07d67c9665880a459b4e6005914a477a143e9ea2b104b8"), looks := true }, kinds := [], alts := [], laidByText := true, laidKinds := [.data, .pinned], laidTests := true, laidLooks := .later }
def FoldPlacesUptoCardSaid : Prop := Claim7.holds Tryz.pinned (.plain (OpenSpec.upto foldPlacesSpec)) foldPlacesUptoCard

/-- THE SECOND FORM's CARD OF 'inklaw6.FoldSame'. -/
def foldSameUptoCard : Claim7 := { stood := { row := foldSameUptoRow, standIns := [], harness := (true, "20d880a8883b7cbf1f07d67c9665880a459b4e6005914a477a143e9ea2b104b8"), looks := true }, kinds := [], alts := [], laidByText := true, laidKinds := [.data, .pinned], laidTests := true, laidLooks := .later }
def FoldSameUptoCardSaid : Prop := Claim7.holds Tryz.pinned (.plain (OpenSpec.upto foldSameSpec)) foldSameUptoCard

/-- THE SECOND FORM's CARD OF 'inktop.TopEdge'. -/
def topEdgeUptoCard : Claim7 := { stood := { row := topEdgeUptoRow, standIns := [], harness := (true, "20d880a8883b7cbf1f07d67c9665880a459b4e6005914a477a143e9ea2b104b8"), looks := true }, kinds := [], alts := [], laidByText := true, laidKinds := [.data, .pinned], laidTests := true, laidLooks := .later }
def TopEdgeUptoCardSaid : Prop := Claim7.holds Tryz.pinned (.plain (OpenSpec.upto topEdgeSpec)) topEdgeUptoCard

/-- THE SECOND FORM's CARD OF 'inktop.TopWhere'. -/
def topWhereUptoCard : Claim7 := { stood := { row := topWhereUptoRow, standIns := [], harness := (true, "20d880a8883b7cbf1f07d67c9665880a459b4e6005914a477a143e9ea2b104b8"), looks := true }, kinds := [], alts := [], laidByText := true, laidKinds := [.data, .pinned], laidTests := true, laidLooks := .later }
def TopWhereUptoCardSaid : Prop := Claim7.holds Tryz.pinned (.plain (OpenSpec.upto topWhereSpec)) topWhereUptoCard

/-- THE SECOND FORM's CARD OF 'inktop.TopOwn'. -/
def topOwnUptoCard : Claim7 := { stood := { row := topOwnUptoRow, standIns := [], harness := (true, "20d880a8883b7cbf1f07d67c9665880a459b4e6005914a477a143e9ea2b104b8"), looks := true }, kinds := [], alts := [], laidByText := true, laidKinds := [.data, .pinned], laidTests := true, laidLooks := .later }
def TopOwnUptoCardSaid : Prop := Claim7.holds Tryz.pinned (.plain (OpenSpec.upto topOwnSpec)) topOwnUptoCard
end Rows
end Go.Proofs.YtplbdlgmjehckacGreatDoor
