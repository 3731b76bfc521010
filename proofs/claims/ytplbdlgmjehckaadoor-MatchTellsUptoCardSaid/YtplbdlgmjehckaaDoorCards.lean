/-
  DERIVED. GIVEN WITH THE SEED: THE CARDS: each row of YtplbdlgmjehckaaDoorRows.lean that lists a variable, with what it lists TIED to the program's text (the seventh form; the later family's looks); each row that meets fmt, with fmt's text TOLD by the authors' own Lean function (tested against real Go, not proved from fmt's source: count such statements apart). THE CARD IS WHAT COUNTS. Prove the row's statement (the work); the ties are given (YtplbdlgmjehckaaDoorTie.lean); close each card by the builder's one call (the guide's Derived/Test/ToyasCard.lean, 'card_holds'). Laid BY PROGRAM, IN A SANDBOX (cutbox-door.mjs). By AI agents, Wed Nov 11 2026. No macro, syntax, notation, axiom, sorry.
-/
import Derived.Test.YtplbdlgmjehckaaDoorRows
import GoSem.ClaimSeven
namespace Go.Proofs.YtplbdlgmjehckaaDoor
namespace Rows

/-- THE TIED CARD OF 'inklaw4.PropsEdge'. -/
def propsEdgeCard : Claim7 := { stood := { row := propsEdgeRow, standIns := [], harness := (true, "3165b8ba5f5dce0faf40fd9172ae98b63cf328b605c6e7cc1790e9774d2c4ff8"), looks := false }, kinds := [], alts := [], laidByText := true, laidKinds := [.data, .pinned], laidTests := true, laidLooks := .later }
def PropsEdgeCardSaid : Prop := Claim7.holds Tryd.pinned (.plain (OpenSpec.ofChange propsEdgeSpec)) propsEdgeCard

/-- THE TIED CARD OF 'inklaw4.PropsTells'. -/
def propsTellsCard : Claim7 := { stood := { row := propsTellsRow, standIns := [], harness := (true, "3165b8ba5f5dce0faf40fd9172ae98b63cf328b605c6e7cc1790e9774d2c4ff8"), looks := false }, kinds := [], alts := [], laidByText := true, laidKinds := [.data, .pinned], laidTests := true, laidLooks := .later }
def PropsTellsCardSaid : Prop := Claim7.holds Tryd.pinned (.plain (OpenSpec.ofChange propsTellsSpec)) propsTellsCard

/-- THE TIED CARD OF 'inklaw4.PropsPlain'. -/
def propsPlainCard : Claim7 := { stood := { row := propsPlainRow, standIns := [], harness := (true, "3165b8ba5f5dce0faf40fd9172ae98b63cf328b605c6e7cc1790e9774d2c4ff8"), looks := false }, kinds := [], alts := [], laidByText := true, laidKinds := [.data, .pinned], laidTests := true, laidLooks := .later }
def PropsPlainCardSaid : Prop := Claim7.holds Tryd.pinned (.plain (OpenSpec.ofChange propsPlainSpec)) propsPlainCard

/-- THE TIED CARD OF 'inklaw3.MatchMore'. -/
def matchMoreCard : Claim7 := { stood := { row := matchMoreRow, standIns := [], harness := (true, "3165b8ba5f5dce0faf40fd9172ae98b63cf328b605c6e7cc1790e9774d2c4ff8"), looks := false }, kinds := [], alts := [], laidByText := true, laidKinds := [.data, .pinned], laidTests := true, laidLooks := .later }
def MatchMoreCardSaid : Prop := Claim7.holds Tryd.pinned (.plain (OpenSpec.ofChange matchMoreSpec)) matchMoreCard

/-- THE TIED CARD OF 'inklaw3.MatchJoins'. -/
def matchJoinsCard : Claim7 := { stood := { row := matchJoinsRow, standIns := [], harness := (true, "3165b8ba5f5dce0faf40fd9172ae98b63cf328b605c6e7cc1790e9774d2c4ff8"), looks := false }, kinds := [], alts := [], laidByText := true, laidKinds := [.data, .pinned], laidTests := true, laidLooks := .later }
def MatchJoinsCardSaid : Prop := Claim7.holds Tryd.pinned (.plain (OpenSpec.ofChange matchJoinsSpec)) matchJoinsCard

/-- THE TIED CARD OF 'inklaw3.MatchTells'. -/
def matchTellsCard : Claim7 := { stood := { row := matchTellsRow, standIns := [], harness := (true, "3165b8ba5f5dce0faf40fd9172ae98b63cf328b605c6e7cc1790e9774d2c4ff8"), looks := false }, kinds := [], alts := [], laidByText := true, laidKinds := [.data, .pinned], laidTests := true, laidLooks := .later }
def MatchTellsCardSaid : Prop := Claim7.holds Tryd.pinned (.plain (OpenSpec.ofChange matchTellsSpec)) matchTellsCard

/-- THE TIED CARD OF 'inklaw3.MatchRule'. -/
def matchRuleCard : Claim7 := { stood := { row := matchRuleRow, standIns := [], harness := (true, "3165b8ba5f5dce0faf40fd9172ae98b63cf328b605c6e7cc1790e9774d2c4ff8"), looks := false }, kinds := [], alts := [], laidByText := true, laidKinds := [.data, .pinned], laidTests := true, laidLooks := .later }
def MatchRuleCardSaid : Prop := Claim7.holds Tryd.pinned (.plain (OpenSpec.ofChange matchRuleSpec)) matchRuleCard

/-- THE SECOND FORM's CARD OF 'inklaw4.PropsEdge'. -/
def propsEdgeUptoCard : Claim7 := { stood := { row := propsEdgeUptoRow, standIns := [], harness := (true, "3165b8ba5f5dce0faf40fd9172ae98b63cf328b605c6e7cc1790e9774d2c4ff8"), looks := false }, kinds := [], alts := [], laidByText := true, laidKinds := [.data, .pinned], laidTests := true, laidLooks := .later }
def PropsEdgeUptoCardSaid : Prop := Claim7.holds Tryd.pinned (.plain (OpenSpec.upto propsEdgeSpec)) propsEdgeUptoCard

/-- THE SECOND FORM's CARD OF 'inklaw4.PropsTells'. -/
def propsTellsUptoCard : Claim7 := { stood := { row := propsTellsUptoRow, standIns := [], harness := (true, "3165b8ba5f5dce0faf40fd9172ae98b63cf328b605c6e7cc1790e9774d2c4ff8"), looks := false }, kinds := [], alts := [], laidByText := true, laidKinds := [.data, .pinned], laidTests := true, laidLooks := .later }
def PropsTellsUptoCardSaid : Prop := Claim7.holds Tryd.pinned (.plain (OpenSpec.upto propsTellsSpec)) propsTellsUptoCard

/-- THE SECOND FORM's CARD OF 'inklaw4.PropsPlain'. -/
def propsPlainUptoCard : Claim7 := { stood := { row := propsPlainUptoRow, standIns := [], harness := (true, "3165b8ba5f5dce0faf40fd9172ae98b63cf328b605c6e7cc1790e9774d2c4ff8"), looks := false }, kinds := [], alts := [], laidByText := true, laidKinds := [.data, .pinned], laidTests := true, laidLooks := .later }
def PropsPlainUptoCardSaid : Prop := Claim7.holds Tryd.pinned (.plain (OpenSpec.upto propsPlainSpec)) propsPlainUptoCard

/-- THE SECOND FORM's CARD OF 'inklaw3.MatchMore'. -/
def matchMoreUptoCard : Claim7 := { stood := { row := matchMoreUptoRow, standIns := [], harness := (true, "3165b8ba5f5dce0faf40fd9172ae98b63cf328b605c6e7cc1790e9774d2c4ff8"), looks := false }, kinds := [], alts := [], laidByText := true, laidKinds := [.data, .pinned], laidTests := true, laidLooks := .later }
def MatchMoreUptoCardSaid : Prop := Claim7.holds Tryd.pinned (.plain (OpenSpec.upto matchMoreSpec)) matchMoreUptoCard

/-- THE SECOND FORM's CARD OF 'inklaw3.MatchJoins'. -/
def matchJoinsUptoCard : Claim7 := { stood := { row := matchJoinsUptoRow, standIns := [], harness := (true, "3165b8ba5f5dce0faf40fd9172ae98b63cf328b605c6e7cc1790e9774d2c4ff8"), looks := false }, kinds := [], alts := [], laidByText := true, laidKinds := [.data, .pinned], laidTests := true, laidLooks := .later }
def MatchJoinsUptoCardSaid : Prop := Claim7.holds Tryd.pinned (.plain (OpenSpec.upto matchJoinsSpec)) matchJoinsUptoCard

/-- THE SECOND FORM's CARD OF 'inklaw3.MatchTells'. -/
def matchTellsUptoCard : Claim7 := { stood := { row := matchTellsUptoRow, standIns := [], harness := (true, "3165b8ba5f5dce0faf40fd9172ae98b63cf328b605c6e7cc1790e9774d2c4ff8"), looks := false }, kinds := [], alts := [], laidByText := true, laidKinds := [.data, .pinned], laidTests := true, laidLooks := .later }
def MatchTellsUptoCardSaid : Prop := Claim7.holds Tryd.pinned (.plain (OpenSpec.upto matchTellsSpec)) matchTellsUptoCard

/-- THE SECOND FORM's CARD OF 'inklaw3.MatchRule'. -/
def matchRuleUptoCard : Claim7 := { stood := { row := matchRuleUptoRow, standIns := [], harness := (true, "3165b8ba5f5dce0faf40fd9172ae98b63cf328b605c6e7cc1790e9774d2c4ff8"), looks := false }, kinds := [], alts := [], laidByText := true, laidKinds := [.data, .pinned], laidTests := true, laidLooks := .later }
def MatchRuleUptoCardSaid : Prop := Claim7.holds Tryd.pinned (.plain (OpenSpec.upto matchRuleSpec)) matchRuleUptoCard
end Rows
end Go.Proofs.YtplbdlgmjehckaaDoor
