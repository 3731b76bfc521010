/-
  inkref1.SameNodes, where both are the same.
-/
import Derived.Test.YtplbdlgmjehckaaNdMem
import Derived.Deep.QuietTactic
import Derived.Test.YtplbdlgmjehckaaRet
import Derived.Deep.Light
namespace Go.Proofs.Ytplbdlgmjehckaa
open Go.RowKit
set_option linter.unusedVariables false
set_option linter.unusedSimpArgs false

set_option maxRecDepth 100000 in
set_option maxHeartbeats 3200000 in
theorem same_any (w : World) (va vb : Value) (ns : List PNode) (ha : NodesAt w va ns) (hb : NodesAt w vb ns) :
    Calls Try.prog 10 #[va, vb] w fun e w' => e = .returned (.bool true) ∧ Qt w w' := by
  obtain ⟨aa, ca, rfl, hca1, hca2⟩ := ha.form
  obtain ⟨ab, cb, rfl, hcb1, hcb2⟩ := hb.form
  unfold maxLen at hca2 hcb2
  have HA := Lib.hid ha
  have HB := Lib.hid hb
  clear ha hb
  go_enter Try.func10, Try.ntmps10
  go_wp2
  go_loopw [14] (fun i wr => ∃ k : Nat, k ≤ ns.length ∧ i = .int .i64 k ∧ Hid (Qt w wr)) (fun i _ => ns.length - (intOf i).toNat)
  case atStart => exact ⟨0, by omega, rfl, Qt.refl _⟩
  case round =>
    obtain ⟨i, hi, rfl, HQ⟩ := hrel
    obtain ⟨wr0, hwr0⟩ : ∃ x, x = wr := ⟨_, rfl⟩
    subst hwr0
    by_cases hlt : i < ns.length
    · have hx := List.getElem?_eq_getElem hlt
      generalize hgx : ns[i] = x at hx
      clear hgx
      obtain ⟨b, off, av, rfl, g0, g1, g2, g3, g4, g5, hav⟩ := (HA.out.quiet HQ.out).at hx
      obtain ⟨b2, off2, av2, rfl, r0, r1, r2, r3, r4, r5, hav2⟩ := (HB.out.quiet HQ.out).at hx
      obtain ⟨a5, cap5, rfl, hle5, hcap5⟩ := hav.form
      obtain ⟨a6, cap6, rfl, hle6, hcap6⟩ := hav2.form
      unfold maxLen at hcap5 hcap6
      have HAV := Lib.hid hav
      have HAV2 := Lib.hid hav2
      clear hx hav hav2
      go_wp2_with fail
      go_quiet (fail)
      clear g0 g1 g3 g4 g5 r0 r1 r3 r4 r5
      go_wp2_with fail
      go_loopw [88] (fun j wx => ∃ l : Nat, l ≤ x.attrs.length ∧ j = .int .i64 l ∧ Hid (Qt wr0 wx)) (fun j _ => x.attrs.length - (intOf j).toNat)
      case atStart => exact ⟨0, by omega, rfl, ⟨nq, rfl⟩⟩
      case round =>
        obtain ⟨l, hl, rfl, HQ2⟩ := hrel
        by_cases hlt2 : l < x.attrs.length
        · have hy := List.getElem?_eq_getElem hlt2
          generalize hgy : x.attrs[l] = y at hy
          clear hgy
          obtain ⟨b3, off3, rfl, p0, p1, p2, p3⟩ := (HAV.out.qt HQ2.out).at hy
          obtain ⟨b4, off4, rfl, q0, q1, q2, q3⟩ := (HAV2.out.qt HQ2.out).at hy
          obtain ⟨nn, hnn⟩ := HQ2.out
          have g2' : wr.cell? ⟨b, off + i * 6 + 2, none⟩ = some (.slice (some ⟨b3, off3, none⟩) x.attrs.length cap5) := by rw [hnn]; exact g2
          have r2' : wr.cell? ⟨b2, off2 + i * 6 + 2, none⟩ = some (.slice (some ⟨b4, off4, none⟩) x.attrs.length cap6) := by rw [hnn]; exact r2
          clear hy g2 r2 hnn
          go_wp2_with fail
          go_quiet (fail)
          go_wp2_with fail
          go_roundw
          case rel => exact ⟨l + 1, by omega, by go_num, Qt.trans HQ2.out ⟨nq, rfl⟩⟩
          case measure => simp [intOf]; omega
        · go_wp2_with fail
          go_roundw
          case rel => exact ⟨i + 1, by omega, by go_num, Qt.trans HQ.out HQ2.out⟩
          case measure => simp [intOf]; omega
    · go_wp2
      go_ret
      exact ⟨rfl, HQ.out⟩

end Go.Proofs.Ytplbdlgmjehckaa
