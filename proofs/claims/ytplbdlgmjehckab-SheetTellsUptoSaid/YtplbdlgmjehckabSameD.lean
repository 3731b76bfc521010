/-
  inkref1's SameDecls, where both are the same.
-/
import Derived.Test.YtplbdlgmjehckabReads
import Derived.Test.YtplbdlgmjehckabRet
import Derived.Deep.Light
namespace Go.Proofs.Ytplbdlgmjehckab
open Go.RowKit
set_option linter.unusedVariables false
set_option linter.unusedSimpArgs false

set_option maxRecDepth 100000 in
set_option maxHeartbeats 1600000 in
theorem sameDecls_any (w : World) (va vb : Value) (ds : List PDecl) (ha : DeclsAt w va ds) (hb : DeclsAt w vb ds) :
    Calls Try.prog 14 #[va, vb] w fun e w' => e = .returned (.bool true) ∧ Qt w w' := by
  obtain ⟨aa, ca, rfl, hca1, hca2⟩ := ha.form
  obtain ⟨ab, cb, rfl, hcb1, hcb2⟩ := hb.form
  unfold maxLen at hca2 hcb2
  have HA := Lib.hid ha
  have HB := Lib.hid hb
  clear ha hb
  go_enter Try.func14, Try.ntmps14
  go_wp2
  go_loopw [13] (fun i wr => ∃ k : Nat, k ≤ ds.length ∧ i = .int .i64 k ∧ Hid (Qt w wr)) (fun i _ => ds.length - (intOf i).toNat)
  case atStart => exact ⟨0, by omega, rfl, Qt.refl _⟩
  case round =>
    obtain ⟨i, hi, rfl, HQ⟩ := hrel
    by_cases hlt : i < ds.length
    · have hx := List.getElem?_eq_getElem hlt
      generalize hgx : ds[i] = x at hx
      clear hgx
      obtain ⟨b, off, rfl, g0, g1, g2⟩ := DeclsAt.at (decls_firm.quiet HA.out HQ.out) hx
      obtain ⟨b2, off2, rfl, r0, r1, r2⟩ := DeclsAt.at (decls_firm.quiet HB.out HQ.out) hx
      clear hx
      go_wp2_with fail
      go_quiet (fail)
      go_wp2_with fail
      go_roundw
      case rel => exact ⟨i + 1, by omega, by go_num, Qt.trans HQ.out ⟨nq, rfl⟩⟩
      case measure => simp [intOf]; omega
    · go_wp2
      go_ret
      exact ⟨rfl, HQ.out⟩


end Go.Proofs.Ytplbdlgmjehckab
