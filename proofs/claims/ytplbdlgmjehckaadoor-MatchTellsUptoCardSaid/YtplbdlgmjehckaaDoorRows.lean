/-
  NARROWER THAN 'FOR EVERY INPUT', by the rows' own cells (each row's printed sentence says how): PropsEdge: laid · PropsTells: laid · PropsPlain: laid · MatchMore: laid · MatchJoins: laid · MatchTells: laid · MatchRule: laid.
  DERIVED. THE GIVEN ROWS OF THIS SEAT. 7 by the template 'for every input the law returns true; each argument reads behind the call as it read before'; 0 by the template 'total and deterministic' (their statements: YtplbdlgmjehckaaDoorTotals.lean).
  GIVEN WITH THE SEED: the statements are not yours to turn. If you find one false, say at which input.
  Laid BY PROGRAM, IN A SANDBOX (cutbox-rows.mjs): the forced cells as the released guide's own fill.sh prints them over the translation 35a430b86f65e75e… (all of the seat's roots in one cut). By AI agents, Wed Nov 11 2026. No macro, syntax, notation, axiom, sorry.
-/
import Derived.Test.YtplbdlgmjehckaaDoorChecked
import GoSem.PinnedTables
import GoSem.Claim
import GoSem.ClaimJoined
import GoSem.ClaimMapViews
import Derived.JoinedTies
import Derived.KernelRfl
namespace Go.Proofs.YtplbdlgmjehckaaDoor
/- THE CELL 'sum', in the pinned program and in every row, IS THE sha256 OF THE DUMP (.gsa) THAT YtplbdlgmjehckaaDoorProg.lean LOADS. Nothing in Lean hashes anything: it is a label: what it is worth is what the hold of that sum in a sandbox is worth. -/
noncomputable def Tryd.pinned : Pinned := { name := "ytplbdlgmjehckaadoor", sum := "35a430b86f65e75ebed18cfc74a193744c5fb5759cb74e3066ff1600a3cecd20", checked := Tryd.checked }
namespace Rows
def none {H : Type} : Left H := { results := [], args := [] }

/- WHAT THE LISTED PACKAGE-LEVEL VARIABLES READ AS WHEN THE CALL BEGINS. Each datum BY PROGRAM (the guide's laid-datum.mjs) off the statement by which the dump's own 'gosem.cut.vars' lays the variable. In a bare row this is a premise. The card (YtplbdlgmjehckaaDoorCards.lean) ties it to the program's text. -/
def laid_unicode_utf8_acceptRanges {H : Type} : DataW H := .agg [.agg [.lit (.int .u8 128), .lit (.int .u8 191)], .agg [.lit (.int .u8 160), .lit (.int .u8 191)], .agg [.lit (.int .u8 128), .lit (.int .u8 159)], .agg [.lit (.int .u8 144), .lit (.int .u8 191)], .agg [.lit (.int .u8 128), .lit (.int .u8 143)], .agg [.lit (.int .u8 0), .lit (.int .u8 0)], .agg [.lit (.int .u8 0), .lit (.int .u8 0)], .agg [.lit (.int .u8 0), .lit (.int .u8 0)], .agg [.lit (.int .u8 0), .lit (.int .u8 0)], .agg [.lit (.int .u8 0), .lit (.int .u8 0)], .agg [.lit (.int .u8 0), .lit (.int .u8 0)], .agg [.lit (.int .u8 0), .lit (.int .u8 0)], .agg [.lit (.int .u8 0), .lit (.int .u8 0)], .agg [.lit (.int .u8 0), .lit (.int .u8 0)], .agg [.lit (.int .u8 0), .lit (.int .u8 0)], .agg [.lit (.int .u8 0), .lit (.int .u8 0)]]
/-- One of Go's own tables, pinned by name: the form's constant. -/
def laid_unicode_utf8_first : DataW Unit := Go.Pinned.utf8First

/-- 'inklaw4.PropsEdge': WHATEVER THE INPUT: true; the input reads as it did. -/
def propsEdgeSpec : ChangeSpec := { name := "propsEdge", fn := fun _ => fun
  | [d] => { results := [.lit (.bool true)], args := [d] }
  | _ => none }
def propsEdgeRow : OpenClaim := { program := "ytplbdlgmjehckaadoor", sum := "35a430b86f65e75ebed18cfc74a193744c5fb5759cb74e3066ff1600a3cecd20", func := "inkwell/inklaw4.PropsEdge", spec := "propsEdge", inPlace := ["internal/bytealg.CountString", "internal/bytealg.IndexByteString", "internal/bytealg.IndexString"], named := ["unicode/utf8.first", "unicode/utf8.acceptRanges", "internal/bytealg.MaxLen"], apart := false, laid := [("unicode/utf8.acceptRanges", laid_unicode_utf8_acceptRanges), ("unicode/utf8.first", laid_unicode_utf8_first)] }
def PropsEdgeSaid : Prop := propsEdgeRow.holds Tryd.pinned (OpenSpec.ofChange propsEdgeSpec)

/-- ITS FALSE NEIGHBOUR: 'it returns false'. Refute it at one input. -/
def propsEdgeWrong : ChangeSpec := { name := "propsEdge", fn := fun _ => fun
  | [d] => { results := [.lit (.bool false)], args := [d] }
  | _ => none }
def PropsEdgeWrongFalsely : Prop := propsEdgeRow.holds Tryd.pinned (OpenSpec.ofChange propsEdgeWrong)

/-- 'inklaw4.PropsTells': WHATEVER THE INPUT: true; the input reads as it did. -/
def propsTellsSpec : ChangeSpec := { name := "propsTells", fn := fun _ => fun
  | [d1, d2] => { results := [.lit (.bool true)], args := [d1, d2] }
  | _ => none }
def propsTellsRow : OpenClaim := { program := "ytplbdlgmjehckaadoor", sum := "35a430b86f65e75ebed18cfc74a193744c5fb5759cb74e3066ff1600a3cecd20", func := "inkwell/inklaw4.PropsTells", spec := "propsTells", inPlace := ["internal/bytealg.CountString", "internal/bytealg.IndexByteString", "internal/bytealg.IndexString"], named := ["unicode/utf8.first", "unicode/utf8.acceptRanges", "internal/bytealg.MaxLen"], apart := false, laid := [("unicode/utf8.acceptRanges", laid_unicode_utf8_acceptRanges), ("unicode/utf8.first", laid_unicode_utf8_first)] }
def PropsTellsSaid : Prop := propsTellsRow.holds Tryd.pinned (OpenSpec.ofChange propsTellsSpec)

/-- ITS FALSE NEIGHBOUR: 'it returns false'. Refute it at one input. -/
def propsTellsWrong : ChangeSpec := { name := "propsTells", fn := fun _ => fun
  | [d1, d2] => { results := [.lit (.bool false)], args := [d1, d2] }
  | _ => none }
def PropsTellsWrongFalsely : Prop := propsTellsRow.holds Tryd.pinned (OpenSpec.ofChange propsTellsWrong)

/-- 'inklaw4.PropsPlain': WHATEVER THE INPUT: true; the input reads as it did. -/
def propsPlainSpec : ChangeSpec := { name := "propsPlain", fn := fun _ => fun
  | [d] => { results := [.lit (.bool true)], args := [d] }
  | _ => none }
def propsPlainRow : OpenClaim := { program := "ytplbdlgmjehckaadoor", sum := "35a430b86f65e75ebed18cfc74a193744c5fb5759cb74e3066ff1600a3cecd20", func := "inkwell/inklaw4.PropsPlain", spec := "propsPlain", inPlace := ["internal/bytealg.CountString", "internal/bytealg.IndexByteString", "internal/bytealg.IndexString"], named := ["unicode/utf8.first", "unicode/utf8.acceptRanges", "internal/bytealg.MaxLen"], apart := false, laid := [("unicode/utf8.acceptRanges", laid_unicode_utf8_acceptRanges), ("unicode/utf8.first", laid_unicode_utf8_first)] }
def PropsPlainSaid : Prop := propsPlainRow.holds Tryd.pinned (OpenSpec.ofChange propsPlainSpec)

/-- ITS FALSE NEIGHBOUR: 'it returns false'. Refute it at one input. -/
def propsPlainWrong : ChangeSpec := { name := "propsPlain", fn := fun _ => fun
  | [d] => { results := [.lit (.bool false)], args := [d] }
  | _ => none }
def PropsPlainWrongFalsely : Prop := propsPlainRow.holds Tryd.pinned (OpenSpec.ofChange propsPlainWrong)

/-- 'inklaw3.MatchMore': WHATEVER THE INPUT: true; the input reads as it did. -/
def matchMoreSpec : ChangeSpec := { name := "matchMore", fn := fun _ => fun
  | [d1, d2, d3, d4, d5] => { results := [.lit (.bool true)], args := [d1, d2, d3, d4, d5] }
  | _ => none }
def matchMoreRow : OpenClaim := { program := "ytplbdlgmjehckaadoor", sum := "35a430b86f65e75ebed18cfc74a193744c5fb5759cb74e3066ff1600a3cecd20", func := "inkwell/inklaw3.MatchMore", spec := "matchMore", inPlace := ["internal/bytealg.CountString", "internal/bytealg.IndexByteString", "internal/bytealg.IndexString"], recurses := true, named := ["unicode/utf8.first", "unicode/utf8.acceptRanges", "internal/bytealg.MaxLen"], apart := false, laid := [("unicode/utf8.acceptRanges", laid_unicode_utf8_acceptRanges), ("unicode/utf8.first", laid_unicode_utf8_first)] }
def MatchMoreSaid : Prop := matchMoreRow.holds Tryd.pinned (OpenSpec.ofChange matchMoreSpec)

/-- ITS FALSE NEIGHBOUR: 'it returns false'. Refute it at one input. -/
def matchMoreWrong : ChangeSpec := { name := "matchMore", fn := fun _ => fun
  | [d1, d2, d3, d4, d5] => { results := [.lit (.bool false)], args := [d1, d2, d3, d4, d5] }
  | _ => none }
def MatchMoreWrongFalsely : Prop := matchMoreRow.holds Tryd.pinned (OpenSpec.ofChange matchMoreWrong)

/-- 'inklaw3.MatchJoins': WHATEVER THE INPUT: true; the input reads as it did. -/
def matchJoinsSpec : ChangeSpec := { name := "matchJoins", fn := fun _ => fun
  | [d1, d2, d3, d4] => { results := [.lit (.bool true)], args := [d1, d2, d3, d4] }
  | _ => none }
def matchJoinsRow : OpenClaim := { program := "ytplbdlgmjehckaadoor", sum := "35a430b86f65e75ebed18cfc74a193744c5fb5759cb74e3066ff1600a3cecd20", func := "inkwell/inklaw3.MatchJoins", spec := "matchJoins", inPlace := ["internal/bytealg.CountString", "internal/bytealg.IndexByteString", "internal/bytealg.IndexString"], recurses := true, named := ["unicode/utf8.first", "unicode/utf8.acceptRanges", "internal/bytealg.MaxLen"], apart := false, laid := [("unicode/utf8.acceptRanges", laid_unicode_utf8_acceptRanges), ("unicode/utf8.first", laid_unicode_utf8_first)] }
def MatchJoinsSaid : Prop := matchJoinsRow.holds Tryd.pinned (OpenSpec.ofChange matchJoinsSpec)

/-- ITS FALSE NEIGHBOUR: 'it returns false'. Refute it at one input. -/
def matchJoinsWrong : ChangeSpec := { name := "matchJoins", fn := fun _ => fun
  | [d1, d2, d3, d4] => { results := [.lit (.bool false)], args := [d1, d2, d3, d4] }
  | _ => none }
def MatchJoinsWrongFalsely : Prop := matchJoinsRow.holds Tryd.pinned (OpenSpec.ofChange matchJoinsWrong)

/-- 'inklaw3.MatchTells': WHATEVER THE INPUT: true; the input reads as it did. -/
def matchTellsSpec : ChangeSpec := { name := "matchTells", fn := fun _ => fun
  | [d1, d2, d3] => { results := [.lit (.bool true)], args := [d1, d2, d3] }
  | _ => none }
def matchTellsRow : OpenClaim := { program := "ytplbdlgmjehckaadoor", sum := "35a430b86f65e75ebed18cfc74a193744c5fb5759cb74e3066ff1600a3cecd20", func := "inkwell/inklaw3.MatchTells", spec := "matchTells", inPlace := ["internal/bytealg.CountString", "internal/bytealg.IndexByteString", "internal/bytealg.IndexString"], recurses := true, named := ["unicode/utf8.first", "unicode/utf8.acceptRanges", "internal/bytealg.MaxLen"], apart := false, laid := [("unicode/utf8.acceptRanges", laid_unicode_utf8_acceptRanges), ("unicode/utf8.first", laid_unicode_utf8_first)] }
def MatchTellsSaid : Prop := matchTellsRow.holds Tryd.pinned (OpenSpec.ofChange matchTellsSpec)

/-- ITS FALSE NEIGHBOUR: 'it returns false'. Refute it at one input. -/
def matchTellsWrong : ChangeSpec := { name := "matchTells", fn := fun _ => fun
  | [d1, d2, d3] => { results := [.lit (.bool false)], args := [d1, d2, d3] }
  | _ => none }
def MatchTellsWrongFalsely : Prop := matchTellsRow.holds Tryd.pinned (OpenSpec.ofChange matchTellsWrong)

/-- 'inklaw3.MatchRule': WHATEVER THE INPUT: true; the input reads as it did. -/
def matchRuleSpec : ChangeSpec := { name := "matchRule", fn := fun _ => fun
  | [d1, d2, d3] => { results := [.lit (.bool true)], args := [d1, d2, d3] }
  | _ => none }
def matchRuleRow : OpenClaim := { program := "ytplbdlgmjehckaadoor", sum := "35a430b86f65e75ebed18cfc74a193744c5fb5759cb74e3066ff1600a3cecd20", func := "inkwell/inklaw3.MatchRule", spec := "matchRule", inPlace := ["internal/bytealg.CountString", "internal/bytealg.IndexByteString", "internal/bytealg.IndexString"], recurses := true, named := ["unicode/utf8.first", "unicode/utf8.acceptRanges", "internal/bytealg.MaxLen"], apart := false, laid := [("unicode/utf8.acceptRanges", laid_unicode_utf8_acceptRanges), ("unicode/utf8.first", laid_unicode_utf8_first)] }
def MatchRuleSaid : Prop := matchRuleRow.holds Tryd.pinned (OpenSpec.ofChange matchRuleSpec)

/-- ITS FALSE NEIGHBOUR: 'it returns false'. Refute it at one input. -/
def matchRuleWrong : ChangeSpec := { name := "matchRule", fn := fun _ => fun
  | [d1, d2, d3] => { results := [.lit (.bool false)], args := [d1, d2, d3] }
  | _ => none }
def MatchRuleWrongFalsely : Prop := matchRuleRow.holds Tryd.pinned (OpenSpec.ofChange matchRuleWrong)

/- THE SECOND FORM. 'bulk': how many values and letters a reading holds, each counted each time it is reached (what is shared counts as often as it is met; a slice's spare places count too). A statement '..UptoSaid' is the law's where the arguments, and the package variables that the reading takes, are together of bulk at most 1048576: NARROWER than '..Said'. Prove '..Said' where nothing that the law and all that it calls make is longer than what came in: it says more and counts as full. Else prove '..UptoSaid'. A law counts once. -/
mutual
def uptoBulk {H : Type} : DataW H → Nat
  | .lit (.string bytes) => bytes.length + 1
  | .lit _ => 1
  | .nil => 1
  | .ptr d => uptoBulk d + 1
  | .slice elems spare => uptoBulkAll elems + uptoBulkAll spare + 1
  | .agg parts => uptoBulkAll parts + 1
  | .iface _ d => uptoBulk d + 1
  | .map entries => uptoBulkEntries entries + 1
  | .held _ => 1
def uptoBulkAll {H : Type} : List (DataW H) → Nat
  | [] => 0
  | d :: r => uptoBulk d + uptoBulkAll r
def uptoBulkEntries {H : Type} : List (Lit × DataW H) → Nat
  | [] => 0
  | x :: r => uptoBulkEntry x + uptoBulkEntries r
def uptoBulkEntry {H : Type} : Lit × DataW H → Nat
  | (.string bytes, d) => bytes.length + uptoBulk d + 1
  | (_, d) => uptoBulk d + 1
 end
def uptoSmall : (H : Type) → List (DataW H) → Bool := fun _ ds => decide (uptoBulkAll ds ≤ 1048576)
def OpenSpec.upto (s : _root_.Go.ChangeSpec) : _root_.Go.OpenSpec := { _root_.Go.OpenSpec.ofChange s with cond := some uptoSmall }

/-- 'inklaw4.PropsEdge', WHERE WHAT IT READS IS OF BULK AT MOST 1048576: true; the input reads as it did. -/
def propsEdgeUptoRow : OpenClaim := { program := "ytplbdlgmjehckaadoor", sum := "35a430b86f65e75ebed18cfc74a193744c5fb5759cb74e3066ff1600a3cecd20", func := "inkwell/inklaw4.PropsEdge", spec := "propsEdge", inPlace := ["internal/bytealg.CountString", "internal/bytealg.IndexByteString", "internal/bytealg.IndexString"], named := ["unicode/utf8.first", "unicode/utf8.acceptRanges", "internal/bytealg.MaxLen"], apart := false, laid := [("unicode/utf8.acceptRanges", laid_unicode_utf8_acceptRanges), ("unicode/utf8.first", laid_unicode_utf8_first)], narrowed := true }
def PropsEdgeUptoSaid : Prop := propsEdgeUptoRow.holds Tryd.pinned (OpenSpec.upto propsEdgeSpec)

/-- 'inklaw4.PropsTells', WHERE WHAT IT READS IS OF BULK AT MOST 1048576: true; the input reads as it did. -/
def propsTellsUptoRow : OpenClaim := { program := "ytplbdlgmjehckaadoor", sum := "35a430b86f65e75ebed18cfc74a193744c5fb5759cb74e3066ff1600a3cecd20", func := "inkwell/inklaw4.PropsTells", spec := "propsTells", inPlace := ["internal/bytealg.CountString", "internal/bytealg.IndexByteString", "internal/bytealg.IndexString"], named := ["unicode/utf8.first", "unicode/utf8.acceptRanges", "internal/bytealg.MaxLen"], apart := false, laid := [("unicode/utf8.acceptRanges", laid_unicode_utf8_acceptRanges), ("unicode/utf8.first", laid_unicode_utf8_first)], narrowed := true }
def PropsTellsUptoSaid : Prop := propsTellsUptoRow.holds Tryd.pinned (OpenSpec.upto propsTellsSpec)

/-- 'inklaw4.PropsPlain', WHERE WHAT IT READS IS OF BULK AT MOST 1048576: true; the input reads as it did. -/
def propsPlainUptoRow : OpenClaim := { program := "ytplbdlgmjehckaadoor", sum := "35a430b86f65e75ebed18cfc74a193744c5fb5759cb74e3066ff1600a3cecd20", func := "inkwell/inklaw4.PropsPlain", spec := "propsPlain", inPlace := ["internal/bytealg.CountString", "internal/bytealg.IndexByteString", "internal/bytealg.IndexString"], named := ["unicode/utf8.first", "unicode/utf8.acceptRanges", "internal/bytealg.MaxLen"], apart := false, laid := [("unicode/utf8.acceptRanges", laid_unicode_utf8_acceptRanges), ("unicode/utf8.first", laid_unicode_utf8_first)], narrowed := true }
def PropsPlainUptoSaid : Prop := propsPlainUptoRow.holds Tryd.pinned (OpenSpec.upto propsPlainSpec)

/-- 'inklaw3.MatchMore', WHERE WHAT IT READS IS OF BULK AT MOST 1048576: true; the input reads as it did. -/
def matchMoreUptoRow : OpenClaim := { program := "ytplbdlgmjehckaadoor", sum := "35a430b86f65e75ebed18cfc74a193744c5fb5759cb74e3066ff1600a3cecd20", func := "inkwell/inklaw3.MatchMore", spec := "matchMore", inPlace := ["internal/bytealg.CountString", "internal/bytealg.IndexByteString", "internal/bytealg.IndexString"], recurses := true, named := ["unicode/utf8.first", "unicode/utf8.acceptRanges", "internal/bytealg.MaxLen"], apart := false, laid := [("unicode/utf8.acceptRanges", laid_unicode_utf8_acceptRanges), ("unicode/utf8.first", laid_unicode_utf8_first)], narrowed := true }
def MatchMoreUptoSaid : Prop := matchMoreUptoRow.holds Tryd.pinned (OpenSpec.upto matchMoreSpec)

/-- 'inklaw3.MatchJoins', WHERE WHAT IT READS IS OF BULK AT MOST 1048576: true; the input reads as it did. -/
def matchJoinsUptoRow : OpenClaim := { program := "ytplbdlgmjehckaadoor", sum := "35a430b86f65e75ebed18cfc74a193744c5fb5759cb74e3066ff1600a3cecd20", func := "inkwell/inklaw3.MatchJoins", spec := "matchJoins", inPlace := ["internal/bytealg.CountString", "internal/bytealg.IndexByteString", "internal/bytealg.IndexString"], recurses := true, named := ["unicode/utf8.first", "unicode/utf8.acceptRanges", "internal/bytealg.MaxLen"], apart := false, laid := [("unicode/utf8.acceptRanges", laid_unicode_utf8_acceptRanges), ("unicode/utf8.first", laid_unicode_utf8_first)], narrowed := true }
def MatchJoinsUptoSaid : Prop := matchJoinsUptoRow.holds Tryd.pinned (OpenSpec.upto matchJoinsSpec)

/-- 'inklaw3.MatchTells', WHERE WHAT IT READS IS OF BULK AT MOST 1048576: true; the input reads as it did. -/
def matchTellsUptoRow : OpenClaim := { program := "ytplbdlgmjehckaadoor", sum := "35a430b86f65e75ebed18cfc74a193744c5fb5759cb74e3066ff1600a3cecd20", func := "inkwell/inklaw3.MatchTells", spec := "matchTells", inPlace := ["internal/bytealg.CountString", "internal/bytealg.IndexByteString", "internal/bytealg.IndexString"], recurses := true, named := ["unicode/utf8.first", "unicode/utf8.acceptRanges", "internal/bytealg.MaxLen"], apart := false, laid := [("unicode/utf8.acceptRanges", laid_unicode_utf8_acceptRanges), ("unicode/utf8.first", laid_unicode_utf8_first)], narrowed := true }
def MatchTellsUptoSaid : Prop := matchTellsUptoRow.holds Tryd.pinned (OpenSpec.upto matchTellsSpec)

/-- 'inklaw3.MatchRule', WHERE WHAT IT READS IS OF BULK AT MOST 1048576: true; the input reads as it did. -/
def matchRuleUptoRow : OpenClaim := { program := "ytplbdlgmjehckaadoor", sum := "35a430b86f65e75ebed18cfc74a193744c5fb5759cb74e3066ff1600a3cecd20", func := "inkwell/inklaw3.MatchRule", spec := "matchRule", inPlace := ["internal/bytealg.CountString", "internal/bytealg.IndexByteString", "internal/bytealg.IndexString"], recurses := true, named := ["unicode/utf8.first", "unicode/utf8.acceptRanges", "internal/bytealg.MaxLen"], apart := false, laid := [("unicode/utf8.acceptRanges", laid_unicode_utf8_acceptRanges), ("unicode/utf8.first", laid_unicode_utf8_first)], narrowed := true }
def MatchRuleUptoSaid : Prop := matchRuleUptoRow.holds Tryd.pinned (OpenSpec.upto matchRuleSpec)

end Rows
end Go.Proofs.YtplbdlgmjehckaaDoor
