/-
  Lemmas for the claim of this law that the other bundles lack.
-/
import Derived.Test.YtplbdlgmjehckacGreatDoorPk1
import Derived.Test.YtplbdlgmjehckacGreatDoorPk2
import Derived.Test.YtplbdlgmjehckacGreatDoorPk3
import Derived.Test.YtplbdlgmjehckacGreatDoorPk4
import Derived.Test.YtplbdlgmjehckacGreatDoorPk5
import Derived.Test.YtplbdlgmjehckacGreatDoorPk6
import Derived.Test.YtplbdlgmjehckacGreatDoorPk7
import Derived.Test.YtplbdlgmjehckacGreatDoorPk8
import Derived.Test.YtplbdlgmjehckacGreatDoorPk9
import Derived.Test.YtplbdlgmjehckacGreatDoorPk10
import Derived.Test.YtplbdlgmjehckacGreatDoorPk11
import Derived.Test.YtplbdlgmjehckacGreatDoorPk12
import Derived.Test.YtplbdlgmjehckacGreatDoorPk13
import Derived.Test.YtplbdlgmjehckacGreatDoorPk14
import Derived.Test.YtplbdlgmjehckacGreatDoorPk15
import Derived.Test.YtplbdlgmjehckacGreatDoorPk16
import Derived.Test.YtplbdlgmjehckacGreatDoorPk17
import Derived.Test.YtplbdlgmjehckacGreatDoorPk18
import Derived.Test.YtplbdlgmjehckacGreatDoorPk19
import Derived.Test.YtplbdlgmjehckacGreatDoorPk20
import Derived.Test.YtplbdlgmjehckacGreatDoorPk21
import Derived.Test.YtplbdlgmjehckacGreatDoorPk22
import Derived.Test.YtplbdlgmjehckacGreatDoorPk23
import Derived.Test.YtplbdlgmjehckacGreatDoorPk24
import Derived.Test.YtplbdlgmjehckacGreatDoorPk25
import Derived.Test.YtplbdlgmjehckacGreatDoorPk26
namespace Go.Proofs.YtplbdlgmjehckacGreatDoor
open Go.RowKit
set_option linter.unusedVariables false
set_option linter.unusedSimpArgs false
theorem selT_b : SelT [98] [tyP 98] := selT_of (by decide +kernel) ⟨98, [], rfl, by decide⟩
end Go.Proofs.YtplbdlgmjehckacGreatDoor
namespace Go.Proofs.YtplbdlgmjehckacGreatDoor
open Go.RowKit
set_option linter.unusedVariables false
set_option linter.unusedSimpArgs false
theorem name_b : NameOk [98] := ⟨by decide +kernel, by decide, by decide⟩
end Go.Proofs.YtplbdlgmjehckacGreatDoor
namespace Go.Proofs.YtplbdlgmjehckacGreatDoor
open Go.RowKit
set_option linter.unusedVariables false
set_option linter.unusedSimpArgs false
section
variable {P : Program} {mty kt et : TypeId} {kind : TypeDesc}
variable {ops : Array Oper} {o : Oper} {a : Act} {K : Act → World → Prop} {Q : Exit → Act → World → Prop} {E : Prop}
theorem upon_made {w : World} (t : TypeId) (d : TypeDesc) (h : ∀ b w', b = w.heap.size → w'.heap.size = w.heap.size + 1 → MapFn d w' b (fun _ => none) → Kept (fun _ => False) w w' → K (a.put o.dst (.map (some b))) w') :
    Oper.upon P o a K Q ((Sem.run P (Instr.makeMap t none) w).andThen fun v w' => .ok (.value v) w') := by
  rw [run_made]
  exact h _ _ rfl (by simp) (MapFn.made d w) ((Kept.refl _ w).alloc _)
end
end Go.Proofs.YtplbdlgmjehckacGreatDoor
