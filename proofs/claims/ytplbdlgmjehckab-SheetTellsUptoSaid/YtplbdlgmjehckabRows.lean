/-
  No cell of these rows narrows 'for every input' (looked for: loops, veiled, ifaces, maps, wideKeys, modest, calm, conditions, laid).
  DERIVED. THE GIVEN ROWS OF THIS SEAT. 6 by the template 'for every input the law returns true; each argument reads behind the call as it read before'; 0 by the template 'total and deterministic' (their statements: YtplbdlgmjehckabTotals.lean).
  GIVEN WITH THE SEED: the statements are not yours to turn. If you find one false, say at which input.
  Laid BY PROGRAM, IN A SANDBOX (cutbox-rows.mjs): the forced cells as the released guide's own fill.sh prints them over the translation 6a9ba5783ac36fb9… (all of the seat's roots in one cut). By AI agents, Wed Nov 11 2026. No macro, syntax, notation, axiom, sorry.
-/
import Derived.Test.YtplbdlgmjehckabChecked
import GoSem.Claim
import GoSem.ClaimJoined
import GoSem.ClaimMapViews
import Derived.JoinedTies
import Derived.KernelRfl
namespace Go.Proofs.Ytplbdlgmjehckab
/- THE CELL 'sum', in the pinned program and in every row, IS THE sha256 OF THE DUMP (.gsa) THAT YtplbdlgmjehckabProg.lean LOADS. Nothing in Lean hashes anything: it is a label: what it is worth is what the hold of that sum in a sandbox is worth. -/
noncomputable def Try.pinned : Pinned := { name := "ytplbdlgmjehckab", sum := "6a9ba5783ac36fb972722def5c11d9a1115658211234892787f927bf124779ec", checked := Try.checked }
namespace Rows
def none {H : Type} : Left H := { results := [], args := [] }

/-- 'inklaw2.SheetTells': WHATEVER THE INPUT: true; the input reads as it did. -/
def sheetTellsSpec : ChangeSpec := { name := "sheetTells", fn := fun _ => fun
  | [d1, d2] => { results := [.lit (.bool true)], args := [d1, d2] }
  | _ => none }
def sheetTellsRow : OpenClaim := { program := "ytplbdlgmjehckab", sum := "6a9ba5783ac36fb972722def5c11d9a1115658211234892787f927bf124779ec", func := "inkwell/inklaw2.SheetTells", spec := "sheetTells", inPlace := ["internal/bytealg.IndexByteString", "internal/bytealg.IndexString", "internal/abi.NoEscape", "internal/bytealg.MakeNoZero"], unfollowed := true, recurses := true, named := ["internal/bytealg.MaxLen"], apart := false }
def SheetTellsSaid : Prop := sheetTellsRow.holds Try.pinned (OpenSpec.ofChange sheetTellsSpec)

/-- ITS FALSE NEIGHBOUR: 'it returns false'. Refute it at one input. -/
def sheetTellsWrong : ChangeSpec := { name := "sheetTells", fn := fun _ => fun
  | [d1, d2] => { results := [.lit (.bool false)], args := [d1, d2] }
  | _ => none }
def SheetTellsWrongFalsely : Prop := sheetTellsRow.holds Try.pinned (OpenSpec.ofChange sheetTellsWrong)

/-- 'inklaw2.SheetTurns': WHATEVER THE INPUT: true; the input reads as it did. -/
def sheetTurnsSpec : ChangeSpec := { name := "sheetTurns", fn := fun _ => fun
  | [d] => { results := [.lit (.bool true)], args := [d] }
  | _ => none }
def sheetTurnsRow : OpenClaim := { program := "ytplbdlgmjehckab", sum := "6a9ba5783ac36fb972722def5c11d9a1115658211234892787f927bf124779ec", func := "inkwell/inklaw2.SheetTurns", spec := "sheetTurns", inPlace := ["internal/bytealg.IndexByteString", "internal/bytealg.IndexString", "internal/abi.NoEscape", "internal/bytealg.MakeNoZero"], unfollowed := true, recurses := true, named := ["internal/bytealg.MaxLen"], apart := false }
def SheetTurnsSaid : Prop := sheetTurnsRow.holds Try.pinned (OpenSpec.ofChange sheetTurnsSpec)

/-- ITS FALSE NEIGHBOUR: 'it returns false'. Refute it at one input. -/
def sheetTurnsWrong : ChangeSpec := { name := "sheetTurns", fn := fun _ => fun
  | [d] => { results := [.lit (.bool false)], args := [d] }
  | _ => none }
def SheetTurnsWrongFalsely : Prop := sheetTurnsRow.holds Try.pinned (OpenSpec.ofChange sheetTurnsWrong)

/-- 'inklaw2.SheetGaps': WHATEVER THE INPUT: true; the input reads as it did. -/
def sheetGapsSpec : ChangeSpec := { name := "sheetGaps", fn := fun _ => fun
  | [d1, d2] => { results := [.lit (.bool true)], args := [d1, d2] }
  | _ => none }
def sheetGapsRow : OpenClaim := { program := "ytplbdlgmjehckab", sum := "6a9ba5783ac36fb972722def5c11d9a1115658211234892787f927bf124779ec", func := "inkwell/inklaw2.SheetGaps", spec := "sheetGaps", inPlace := ["internal/bytealg.IndexByteString", "internal/bytealg.IndexString", "internal/abi.NoEscape", "internal/bytealg.MakeNoZero"], unfollowed := true, recurses := true, named := ["internal/bytealg.MaxLen"], apart := false }
def SheetGapsSaid : Prop := sheetGapsRow.holds Try.pinned (OpenSpec.ofChange sheetGapsSpec)

/-- ITS FALSE NEIGHBOUR: 'it returns false'. Refute it at one input. -/
def sheetGapsWrong : ChangeSpec := { name := "sheetGaps", fn := fun _ => fun
  | [d1, d2] => { results := [.lit (.bool false)], args := [d1, d2] }
  | _ => none }
def SheetGapsWrongFalsely : Prop := sheetGapsRow.holds Try.pinned (OpenSpec.ofChange sheetGapsWrong)

/-- 'inklaw2.SheetPlaces': WHATEVER THE INPUT: true; the input reads as it did. -/
def sheetPlacesSpec : ChangeSpec := { name := "sheetPlaces", fn := fun _ => fun
  | [d] => { results := [.lit (.bool true)], args := [d] }
  | _ => none }
def sheetPlacesRow : OpenClaim := { program := "ytplbdlgmjehckab", sum := "6a9ba5783ac36fb972722def5c11d9a1115658211234892787f927bf124779ec", func := "inkwell/inklaw2.SheetPlaces", spec := "sheetPlaces", inPlace := ["internal/bytealg.IndexByteString", "internal/bytealg.IndexString", "internal/abi.NoEscape", "internal/bytealg.MakeNoZero"], unfollowed := true, recurses := true, named := ["internal/bytealg.MaxLen"], apart := false }
def SheetPlacesSaid : Prop := sheetPlacesRow.holds Try.pinned (OpenSpec.ofChange sheetPlacesSpec)

/-- ITS FALSE NEIGHBOUR: 'it returns false'. Refute it at one input. -/
def sheetPlacesWrong : ChangeSpec := { name := "sheetPlaces", fn := fun _ => fun
  | [d] => { results := [.lit (.bool false)], args := [d] }
  | _ => none }
def SheetPlacesWrongFalsely : Prop := sheetPlacesRow.holds Try.pinned (OpenSpec.ofChange sheetPlacesWrong)

/-- 'inklaw2.SheetJoined': WHATEVER THE INPUT: true; the input reads as it did. -/
def sheetJoinedSpec : ChangeSpec := { name := "sheetJoined", fn := fun _ => fun
  | [d1, d2] => { results := [.lit (.bool true)], args := [d1, d2] }
  | _ => none }
def sheetJoinedRow : OpenClaim := { program := "ytplbdlgmjehckab", sum := "6a9ba5783ac36fb972722def5c11d9a1115658211234892787f927bf124779ec", func := "inkwell/inklaw2.SheetJoined", spec := "sheetJoined", inPlace := ["internal/bytealg.IndexByteString", "internal/bytealg.IndexString", "internal/abi.NoEscape", "internal/bytealg.MakeNoZero"], unfollowed := true, recurses := true, named := ["internal/bytealg.MaxLen"], apart := false }
def SheetJoinedSaid : Prop := sheetJoinedRow.holds Try.pinned (OpenSpec.ofChange sheetJoinedSpec)

/-- ITS FALSE NEIGHBOUR: 'it returns false'. Refute it at one input. -/
def sheetJoinedWrong : ChangeSpec := { name := "sheetJoined", fn := fun _ => fun
  | [d1, d2] => { results := [.lit (.bool false)], args := [d1, d2] }
  | _ => none }
def SheetJoinedWrongFalsely : Prop := sheetJoinedRow.holds Try.pinned (OpenSpec.ofChange sheetJoinedWrong)

/-- 'inklaw2.SheetMedia': WHATEVER THE INPUT: true; the input reads as it did. -/
def sheetMediaSpec : ChangeSpec := { name := "sheetMedia", fn := fun _ => fun
  | [d] => { results := [.lit (.bool true)], args := [d] }
  | _ => none }
def sheetMediaRow : OpenClaim := { program := "ytplbdlgmjehckab", sum := "6a9ba5783ac36fb972722def5c11d9a1115658211234892787f927bf124779ec", func := "inkwell/inklaw2.SheetMedia", spec := "sheetMedia", inPlace := ["internal/bytealg.IndexByteString", "internal/bytealg.IndexString", "internal/abi.NoEscape", "internal/bytealg.MakeNoZero"], unfollowed := true, recurses := true, named := ["internal/bytealg.MaxLen"], apart := false }
def SheetMediaSaid : Prop := sheetMediaRow.holds Try.pinned (OpenSpec.ofChange sheetMediaSpec)

/-- ITS FALSE NEIGHBOUR: 'it returns false'. Refute it at one input. -/
def sheetMediaWrong : ChangeSpec := { name := "sheetMedia", fn := fun _ => fun
  | [d] => { results := [.lit (.bool false)], args := [d] }
  | _ => none }
def SheetMediaWrongFalsely : Prop := sheetMediaRow.holds Try.pinned (OpenSpec.ofChange sheetMediaWrong)

/- THE SECOND FORM. 'bulk': how many values and letters a reading holds, each counted each time it is reached (what is shared counts as often as it is met; a slice's spare places count too). A statement '..UptoSaid' is the law's where the arguments, and the package variables that the reading takes, are together of bulk at most 1048576: NARROWER than '..Said'. Prove '..Said' where nothing that the law and all that it calls make is longer than what came in: it says more and counts as full. Else prove '..UptoSaid'. A law counts once. -/
mutual
def uptoBulk {H : Type} : DataW H → Nat
  | .lit (.string bytes) => bytes.length + 1
  | .lit _ => 1
  | .nil => 1
  | .ptr d => uptoBulk d + 1
  | .slice elems spare => uptoBulkAll elems + uptoBulkAll spare + 1
  | .agg parts => uptoBulkAll parts + 1
  | .iface _ d => uptoBulk d + 1
  | .map entries => uptoBulkEntries entries + 1
  | .held _ => 1
def uptoBulkAll {H : Type} : List (DataW H) → Nat
  | [] => 0
  | d :: r => uptoBulk d + uptoBulkAll r
def uptoBulkEntries {H : Type} : List (Lit × DataW H) → Nat
  | [] => 0
  | x :: r => uptoBulkEntry x + uptoBulkEntries r
def uptoBulkEntry {H : Type} : Lit × DataW H → Nat
  | (.string bytes, d) => bytes.length + uptoBulk d + 1
  | (_, d) => uptoBulk d + 1
 end
def uptoSmall : (H : Type) → List (DataW H) → Bool := fun _ ds => decide (uptoBulkAll ds ≤ 1048576)
def OpenSpec.upto (s : _root_.Go.ChangeSpec) : _root_.Go.OpenSpec := { _root_.Go.OpenSpec.ofChange s with cond := some uptoSmall }

/-- 'inklaw2.SheetTells', WHERE WHAT IT READS IS OF BULK AT MOST 1048576: true; the input reads as it did. -/
def sheetTellsUptoRow : OpenClaim := { program := "ytplbdlgmjehckab", sum := "6a9ba5783ac36fb972722def5c11d9a1115658211234892787f927bf124779ec", func := "inkwell/inklaw2.SheetTells", spec := "sheetTells", inPlace := ["internal/bytealg.IndexByteString", "internal/bytealg.IndexString", "internal/abi.NoEscape", "internal/bytealg.MakeNoZero"], unfollowed := true, recurses := true, named := ["internal/bytealg.MaxLen"], apart := false, narrowed := true }
def SheetTellsUptoSaid : Prop := sheetTellsUptoRow.holds Try.pinned (OpenSpec.upto sheetTellsSpec)

/-- 'inklaw2.SheetTurns', WHERE WHAT IT READS IS OF BULK AT MOST 1048576: true; the input reads as it did. -/
def sheetTurnsUptoRow : OpenClaim := { program := "ytplbdlgmjehckab", sum := "6a9ba5783ac36fb972722def5c11d9a1115658211234892787f927bf124779ec", func := "inkwell/inklaw2.SheetTurns", spec := "sheetTurns", inPlace := ["internal/bytealg.IndexByteString", "internal/bytealg.IndexString", "internal/abi.NoEscape", "internal/bytealg.MakeNoZero"], unfollowed := true, recurses := true, named := ["internal/bytealg.MaxLen"], apart := false, narrowed := true }
def SheetTurnsUptoSaid : Prop := sheetTurnsUptoRow.holds Try.pinned (OpenSpec.upto sheetTurnsSpec)

/-- 'inklaw2.SheetGaps', WHERE WHAT IT READS IS OF BULK AT MOST 1048576: true; the input reads as it did. -/
def sheetGapsUptoRow : OpenClaim := { program := "ytplbdlgmjehckab", sum := "6a9ba5783ac36fb972722def5c11d9a1115658211234892787f927bf124779ec", func := "inkwell/inklaw2.SheetGaps", spec := "sheetGaps", inPlace := ["internal/bytealg.IndexByteString", "internal/bytealg.IndexString", "internal/abi.NoEscape", "internal/bytealg.MakeNoZero"], unfollowed := true, recurses := true, named := ["internal/bytealg.MaxLen"], apart := false, narrowed := true }
def SheetGapsUptoSaid : Prop := sheetGapsUptoRow.holds Try.pinned (OpenSpec.upto sheetGapsSpec)

/-- 'inklaw2.SheetPlaces', WHERE WHAT IT READS IS OF BULK AT MOST 1048576: true; the input reads as it did. -/
def sheetPlacesUptoRow : OpenClaim := { program := "ytplbdlgmjehckab", sum := "6a9ba5783ac36fb972722def5c11d9a1115658211234892787f927bf124779ec", func := "inkwell/inklaw2.SheetPlaces", spec := "sheetPlaces", inPlace := ["internal/bytealg.IndexByteString", "internal/bytealg.IndexString", "internal/abi.NoEscape", "internal/bytealg.MakeNoZero"], unfollowed := true, recurses := true, named := ["internal/bytealg.MaxLen"], apart := false, narrowed := true }
def SheetPlacesUptoSaid : Prop := sheetPlacesUptoRow.holds Try.pinned (OpenSpec.upto sheetPlacesSpec)

/-- 'inklaw2.SheetJoined', WHERE WHAT IT READS IS OF BULK AT MOST 1048576: true; the input reads as it did. -/
def sheetJoinedUptoRow : OpenClaim := { program := "ytplbdlgmjehckab", sum := "6a9ba5783ac36fb972722def5c11d9a1115658211234892787f927bf124779ec", func := "inkwell/inklaw2.SheetJoined", spec := "sheetJoined", inPlace := ["internal/bytealg.IndexByteString", "internal/bytealg.IndexString", "internal/abi.NoEscape", "internal/bytealg.MakeNoZero"], unfollowed := true, recurses := true, named := ["internal/bytealg.MaxLen"], apart := false, narrowed := true }
def SheetJoinedUptoSaid : Prop := sheetJoinedUptoRow.holds Try.pinned (OpenSpec.upto sheetJoinedSpec)

/-- 'inklaw2.SheetMedia', WHERE WHAT IT READS IS OF BULK AT MOST 1048576: true; the input reads as it did. -/
def sheetMediaUptoRow : OpenClaim := { program := "ytplbdlgmjehckab", sum := "6a9ba5783ac36fb972722def5c11d9a1115658211234892787f927bf124779ec", func := "inkwell/inklaw2.SheetMedia", spec := "sheetMedia", inPlace := ["internal/bytealg.IndexByteString", "internal/bytealg.IndexString", "internal/abi.NoEscape", "internal/bytealg.MakeNoZero"], unfollowed := true, recurses := true, named := ["internal/bytealg.MaxLen"], apart := false, narrowed := true }
def SheetMediaUptoSaid : Prop := sheetMediaUptoRow.holds Try.pinned (OpenSpec.upto sheetMediaSpec)

end Rows
end Go.Proofs.Ytplbdlgmjehckab
