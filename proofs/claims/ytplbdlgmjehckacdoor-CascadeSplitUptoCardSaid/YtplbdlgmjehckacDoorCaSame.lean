/-
  inkref3.SameLook, where both are the same.
-/
import Derived.Test.YtplbdlgmjehckacDoorReads
import Derived.Test.YtplbdlgmjehckacDoorRet
namespace Go.Proofs.YtplbdlgmjehckacDoor
open Go.RowKit
set_option linter.unusedVariables false
set_option linter.unusedSimpArgs false

set_option maxRecDepth 100000 in
set_option maxHeartbeats 1600000 in
theorem sameLook_any (xs : List PDecl) (w : World) (va vb : Value) (ha : DeclsAt w va xs) (hb : DeclsAt w vb xs) : Calls Tryd.prog 7 #[va, vb] w fun e w' => e = .returned (.bool true) ∧ Kept (fun _ => False) w w' := by
  obtain ⟨a, ac, rfl, ha1, ha2⟩ := DeclsAt.form ha
  obtain ⟨b, bc, rfl, hb1, hb2⟩ := DeclsAt.form hb
  unfold maxLen at ha2 hb2
  have HA := Lib.hid ha
  have HB := Lib.hid hb
  clear ha hb
  go_enter Tryd.func7, Tryd.ntmps7
  go_wp2_with fail
  go_loopw [13] (fun c wr => ∃ i : Nat, i ≤ xs.length ∧ c = .int .i64 (i : Int) ∧ Hid (Qt w wr)) (fun c _ => xs.length - (intOf c).toNat)
  case atStart => exact ⟨0, by omega, rfl, Lib.hid (Qt.refl _)⟩
  case round =>
    obtain ⟨i, hi, rfl, HQ⟩ := hrel
    obtain ⟨wr0, hwr0⟩ : ∃ x, x = wr := ⟨_, rfl⟩
    subst hwr0
    by_cases hlt : i < xs.length
    · have hx := List.getElem?_eq_getElem hlt
      generalize hgx : xs[i] = x at hx
      clear hgx
      obtain ⟨b1, o1, rfl, c0, c1, c2⟩ := DeclsAt.at (RowsAt.quiet HA.out HQ.out) hx
      obtain ⟨b2, o2, rfl, d0, d1, d2⟩ := DeclsAt.at (RowsAt.quiet HB.out HQ.out) hx
      clear hx
      go_wp2_with fail
      go_quiet (fail)
      go_wp2_with fail
      go_roundw
      case measure => simp [intOf]; omega
      case rel => exact ⟨i + 1, by omega, by go_num, Lib.hid (HQ.out.trans ⟨_, rfl⟩)⟩
    · obtain rfl : i = xs.length := by omega
      go_wp2_with fail
      go_ret
      exact ⟨rfl, HQ.out.kept _⟩
end Go.Proofs.YtplbdlgmjehckacDoor
