/-
  props.Inherits, props.Initial, props.sides.
-/
import Derived.Test.YtplbdlgmjehckacDoorPrSpec
import Derived.Test.YtplbdlgmjehckacDoorRet
import Derived.Deep.DeepCutAuto
import Derived.Deep.CutBlock
import Derived.Deep.Light
namespace Go.Proofs.YtplbdlgmjehckacDoor
open Go.RowKit
set_option linter.unusedVariables false
set_option linter.unusedSimpArgs false

set_option maxHeartbeats 400000 in
theorem inherits_any (n : B) (w : World) : Calls Tryd.prog 17 #[.string (str n)] w fun e w' => e = .returned (.bool (pInherits n)) ∧ w' = w := by
  obtain ⟨r, HR⟩ : ∃ r, Hid (pInherits n = r) := ⟨_, rfl⟩
  rw [HR.out]
  go_enter Tryd.func17, Tryd.ntmps17
  go_wp2
  all_goals
    go_ret
    exact ⟨retb (by rw [← HR.out]; simp_all [pInherits, colorName, fontName, sizeName]), rfl⟩

set_option maxHeartbeats 800000 in
theorem initial_any (n : B) (w : World) : Calls Tryd.prog 18 #[.string (str n)] w fun e w' => e = .returned (.string (str (pInitial n))) ∧ w' = w := by
  obtain ⟨r, HR⟩ : ∃ r, Hid (pInitial n = r) := ⟨_, rfl⟩
  rw [HR.out]
  go_enter Tryd.func18, Tryd.ntmps18
  go_wp2
  all_goals
    go_ret
    refine ⟨?_, rfl⟩
    rw [← HR.out]
    simp_all [pInitial, colorName, fontName, sizeName, edgeTop, edgeRight, edgeBottom, edgeLeft]
    try rfl

def sidesV : Value := .agg #[.string (str edgeTop), .string (str edgeRight), .string (str edgeBottom), .string (str edgeLeft)]
set_option maxHeartbeats 400000 in
theorem sides_any (w : World) : Calls Tryd.prog 53 #[] w fun e w' => e = .returned sidesV ∧ Below w.heap.size w w' := by
  go_enter Tryd.func53, Tryd.ntmps53
  go_wp2
  refine bodyPost_ret (v := sidesV) (by simp [results, Tryd.results53, go_sem]; rfl) rfl ?_
  exact ⟨rfl, (Below.refl _ _).alloc (Nat.le_refl _) _⟩

end Go.Proofs.YtplbdlgmjehckacDoor
