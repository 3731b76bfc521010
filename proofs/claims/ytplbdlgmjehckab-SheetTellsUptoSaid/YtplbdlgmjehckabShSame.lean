/-
  inkref1's SameDecls, SameSelector, SameRules, where both are the same.
-/
import Derived.Test.YtplbdlgmjehckabShParse2
import Derived.Test.YtplbdlgmjehckabSameD
namespace Go.Proofs.Ytplbdlgmjehckab
open Go.RowKit
set_option linter.unusedVariables false
set_option linter.unusedSimpArgs false

set_option maxRecDepth 100000 in
set_option maxHeartbeats 1600000 in
theorem sameSel_any (w : World) (va vb : Value) (ps : List PPart) (ha : PartsAt w va ps) (hb : PartsAt w vb ps) :
    Calls Try.prog 25 #[va, vb] w fun e w' => e = .returned (.bool true) ∧ Qt w w' := by
  obtain ⟨aa, ca, rfl, hca1, hca2⟩ := NestAt.form ha
  obtain ⟨ab, cb, rfl, hcb1, hcb2⟩ := NestAt.form hb
  unfold maxLen at hca2 hcb2
  have HA := Lib.hid ha
  have HB := Lib.hid hb
  clear ha hb
  go_enter Try.func25, Try.ntmps25
  go_wp2
  go_loopw [14] (fun i wr => ∃ k : Nat, k ≤ ps.length ∧ i = .int .i64 k ∧ Hid (Qt w wr)) (fun i _ => ps.length - (intOf i).toNat)
  case atStart => exact ⟨0, by omega, rfl, Qt.refl _⟩
  case round =>
    obtain ⟨i, hi, rfl, HQ⟩ := hrel
    obtain ⟨wr0, hwr0⟩ : ∃ x, x = wr := ⟨_, rfl⟩
    subst hwr0
    by_cases hlt : i < ps.length
    · have hx := List.getElem?_eq_getElem hlt
      generalize hgx : ps[i] = x at hx
      clear hgx
      obtain ⟨b, off, u, rfl, hc, hu⟩ := NestAt.at (parts_firm.quiet HA.out HQ.out) hx
      obtain ⟨b2, off2, u2, rfl, hc2, hu2⟩ := NestAt.at (parts_firm.quiet HB.out HQ.out) hx
      have g0 : wr0.cell? ⟨b, off + i * 2, none⟩ = some (.int .i64 x.join) := hc 0 _ rfl
      have g1 : wr0.cell? ⟨b, off + i * 2 + 1, none⟩ = some u := hc 1 _ rfl
      have r0 : wr0.cell? ⟨b2, off2 + i * 2, none⟩ = some (.int .i64 x.join) := hc2 0 _ rfl
      have r1 : wr0.cell? ⟨b2, off2 + i * 2 + 1, none⟩ = some u2 := hc2 1 _ rfl
      obtain ⟨a5, cap5, rfl, hle5, hcap5⟩ := TestsAt.form hu
      obtain ⟨a6, cap6, rfl, hle6, hcap6⟩ := TestsAt.form hu2
      unfold maxLen at hcap5 hcap6
      have HT := Lib.hid hu
      have HT2 := Lib.hid hu2
      clear hx hu hu2 hc hc2
      go_wp2_with fail
      go_quiet (fail)
      go_wp2_with fail
      go_loopw [49] (fun j wx => ∃ l : Nat, l ≤ x.tests.length ∧ j = .int .i64 l ∧ Hid (Qt wr0 wx)) (fun j _ => x.tests.length - (intOf j).toNat)
      case atStart => exact ⟨0, by omega, rfl, ⟨nq, rfl⟩⟩
      case round =>
        obtain ⟨l, hl, rfl, HQ2⟩ := hrel
        by_cases hlt2 : l < x.tests.length
        · have hy := List.getElem?_eq_getElem hlt2
          generalize hgy : x.tests[l] = y at hy
          clear hgy
          obtain ⟨b3, off3, rfl, hp⟩ := RowsAt.at (tests_firm.quiet HT.out HQ2.out) (k := l) (r := testCells y) (by simp [hy])
          obtain ⟨b4, off4, rfl, hq⟩ := RowsAt.at (tests_firm.quiet HT2.out HQ2.out) (k := l) (r := testCells y) (by simp [hy])
          have p0 : wr.cell? ⟨b3, off3 + l * 3, none⟩ = some _ := hp 0 _ rfl
          have p1 : wr.cell? ⟨b3, off3 + l * 3 + 1, none⟩ = some _ := hp 1 _ rfl
          have p2 : wr.cell? ⟨b3, off3 + l * 3 + 2, none⟩ = some _ := hp 2 _ rfl
          have q0 : wr.cell? ⟨b4, off4 + l * 3, none⟩ = some _ := hq 0 _ rfl
          have q1 : wr.cell? ⟨b4, off4 + l * 3 + 1, none⟩ = some _ := hq 1 _ rfl
          have q2 : wr.cell? ⟨b4, off4 + l * 3 + 2, none⟩ = some _ := hq 2 _ rfl
          obtain ⟨nn, hnn⟩ := HQ2.out
          have g2' : wr.cell? ⟨b, off + i * 2 + 1, none⟩ = some (.slice (some ⟨b3, off3, none⟩) x.tests.length cap5) := by rw [hnn]; exact g1
          have r2' : wr.cell? ⟨b2, off2 + i * 2 + 1, none⟩ = some (.slice (some ⟨b4, off4, none⟩) x.tests.length cap6) := by rw [hnn]; exact r1
          clear hy g0 r0 g1 r1 hnn hp hq
          go_wp2_with fail
          go_quiet (fail)
          go_wp2_with fail
          go_roundw
          case rel => exact ⟨l + 1, by omega, by go_num, Qt.trans HQ2.out ⟨nq, rfl⟩⟩
          case measure => simp [intOf]; omega
        · go_wp2_with fail
          go_roundw
          case rel => exact ⟨i + 1, by omega, by go_num, Qt.trans HQ.out HQ2.out⟩
          case measure => simp [intOf]; omega
    · go_wp2
      go_ret
      exact ⟨rfl, HQ.out⟩

set_option maxRecDepth 100000 in
set_option maxHeartbeats 1600000 in
theorem sameRules_any (w : World) (va vb : Value) (rs : List PRule) (ha : RulesAt w va rs) (hb : RulesAt w vb rs) :
    Calls Try.prog 11 #[va, vb] w fun e w' => e = .returned (.bool true) ∧ Qt w w' := by
  obtain ⟨aa, ca, rfl, hca1, hca2⟩ := NestAt.form ha
  obtain ⟨ab, cb, rfl, hcb1, hcb2⟩ := NestAt.form hb
  unfold maxLen at hca2 hcb2
  have HA := Lib.hid ha
  have HB := Lib.hid hb
  clear ha hb
  go_enter Try.func11, Try.ntmps11
  go_wp2
  go_loopw [14] (fun i wr => ∃ k : Nat, k ≤ rs.length ∧ i = .int .i64 k ∧ Hid (Qt w wr)) (fun i _ => rs.length - (intOf i).toNat)
  case atStart => exact ⟨0, by omega, rfl, Qt.refl _⟩
  case round =>
    obtain ⟨i, hi, rfl, HQ⟩ := hrel
    obtain ⟨wr0, hwr0⟩ : ∃ x, x = wr := ⟨_, rfl⟩
    subst hwr0
    by_cases hlt : i < rs.length
    · have hx := List.getElem?_eq_getElem hlt
      generalize hgx : rs[i] = x at hx
      clear hgx
      obtain ⟨b, off, u, rfl, hc, sv, dv, rfl, hs1, hd1⟩ := NestAt.at (rules_firm.quiet HA.out HQ.out) hx
      obtain ⟨b2, off2, u2, rfl, hc2, sv2, dv2, rfl, hs2, hd2⟩ := NestAt.at (rules_firm.quiet HB.out HQ.out) hx
      obtain ⟨a5, cap5, rfl, hle5, hcap5⟩ := NestAt.form hs1
      obtain ⟨a6, cap6, rfl, hle6, hcap6⟩ := NestAt.form hs2
      obtain ⟨a7, cap7, rfl, hle7, hcap7⟩ := DeclsAt.form hd1
      obtain ⟨a8, cap8, rfl, hle8, hcap8⟩ := DeclsAt.form hd2
      have g0 : wr0.cell? ⟨b, off + i * 5, none⟩ = some (.string (str x.media)) := hc 0 _ rfl
      have g1 : wr0.cell? ⟨b, off + i * 5 + 1, none⟩ = some (.slice a5 x.sels.length cap5) := hc 1 _ rfl
      have g2 : wr0.cell? ⟨b, off + i * 5 + 2, none⟩ = some (.slice a7 x.decls.length cap7) := hc 2 _ rfl
      have g3 : wr0.cell? ⟨b, off + i * 5 + 3, none⟩ = some (.int .i64 x.lo) := hc 3 _ rfl
      have g4 : wr0.cell? ⟨b, off + i * 5 + 4, none⟩ = some (.int .i64 x.hi) := hc 4 _ rfl
      have r0 : wr0.cell? ⟨b2, off2 + i * 5, none⟩ = some (.string (str x.media)) := hc2 0 _ rfl
      have r1 : wr0.cell? ⟨b2, off2 + i * 5 + 1, none⟩ = some (.slice a6 x.sels.length cap6) := hc2 1 _ rfl
      have r2 : wr0.cell? ⟨b2, off2 + i * 5 + 2, none⟩ = some (.slice a8 x.decls.length cap8) := hc2 2 _ rfl
      have r3 : wr0.cell? ⟨b2, off2 + i * 5 + 3, none⟩ = some (.int .i64 x.lo) := hc2 3 _ rfl
      have r4 : wr0.cell? ⟨b2, off2 + i * 5 + 4, none⟩ = some (.int .i64 x.hi) := hc2 4 _ rfl
      unfold maxLen at hcap5 hcap6 hcap7 hcap8
      have HS := Lib.hid hs1
      have HS2 := Lib.hid hs2
      have HD := Lib.hid hd1
      have HD2 := Lib.hid hd2
      clear hx hs1 hs2 hd1 hd2 hc hc2
      go_wp2_with fail
      go_quiet ((go_at_call 14; exact Calls.quiet_of (sameDecls_any _ _ _ _ HD.out HD2.out)))
      clear g0 g2 g3 g4 r0 r2 r3 r4
      go_wp2_with fail
      go_loopw [76] (fun j wx => ∃ l : Nat, l ≤ x.sels.length ∧ j = .int .i64 l ∧ Hid (Qt wr0 wx)) (fun j _ => x.sels.length - (intOf j).toNat)
      case atStart => exact ⟨0, by omega, rfl, ⟨nq, rfl⟩⟩
      case round =>
        obtain ⟨l, hl, rfl, HQ2⟩ := hrel
        by_cases hlt2 : l < x.sels.length
        · have hy := List.getElem?_eq_getElem hlt2
          generalize hgy : x.sels[l] = y at hy
          clear hgy
          obtain ⟨b3, off3, u3, rfl, hp, hu3⟩ := NestAt.at (sels_firm.quiet HS.out HQ2.out) hy
          obtain ⟨b4, off4, u4, rfl, hq, hu4⟩ := NestAt.at (sels_firm.quiet HS2.out HQ2.out) hy
          have p0 : wr.cell? ⟨b3, off3 + l, none⟩ = some u3 := by have h := hp 0 u3 rfl; simpa using h
          have q0 : wr.cell? ⟨b4, off4 + l, none⟩ = some u4 := by have h := hq 0 u4 rfl; simpa using h
          obtain ⟨nn, hnn⟩ := HQ2.out
          have g2' : wr.cell? ⟨b, off + i * 5 + 1, none⟩ = some (.slice (some ⟨b3, off3, none⟩) x.sels.length cap5) := by rw [hnn]; exact g1
          have r2' : wr.cell? ⟨b2, off2 + i * 5 + 1, none⟩ = some (.slice (some ⟨b4, off4, none⟩) x.sels.length cap6) := by rw [hnn]; exact r1
          have HU := Lib.hid hu3
          have HU2 := Lib.hid hu4
          clear hy g1 r1 hnn hp hq hu3 hu4
          go_wp2_with fail
          go_quiet ((go_at_call 25; exact Calls.quiet_of (sameSel_any _ _ _ _ HU.out HU2.out)))
          go_wp2_with fail
          go_roundw
          case rel => exact ⟨l + 1, by omega, by go_num, Qt.trans HQ2.out ⟨nq, rfl⟩⟩
          case measure => simp [intOf]; omega
        · go_wp2_with fail
          go_roundw
          case rel => exact ⟨i + 1, by omega, by go_num, Qt.trans HQ.out HQ2.out⟩
          case measure => simp [intOf]; omega
    · go_wp2
      go_ret
      exact ⟨rfl, HQ.out⟩

end Go.Proofs.Ytplbdlgmjehckab
