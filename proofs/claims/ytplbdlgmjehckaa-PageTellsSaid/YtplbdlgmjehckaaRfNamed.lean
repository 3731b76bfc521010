/-
  The document's answer: which texts are names.
-/
import Derived.Test.YtplbdlgmjehckaaRfNm
import Derived.Test.YtplbdlgmjehckaaNamed
import Derived.Test.YtplbdlgmjehckaaBts
import Derived.Deep.DeepCutAuto
import Derived.Deep.CutBlock
import Derived.Deep.Light
namespace Go.Proofs.Ytplbdlgmjehckaa
open Go.RowKit
set_option linter.unusedVariables false
set_option linter.unusedSimpArgs false

set_option maxRecDepth 100000 in
set_option maxHeartbeats 1600000 in
theorem rnamed_any (w : World) (s : B) (hs : s.length ≤ 9223372036854775807) : Calls Try.prog 12 #[.string (str s)] w fun e w' => e = .returned (.bool (named s)) ∧ Kept (fun _ => False) w w' := by
  obtain ⟨r, HR⟩ : ∃ r, Hid (named s = r) := ⟨_, rfl⟩
  rw [HR.out]
  obtain ⟨wb, cp, hcv, kb, hbc⟩ := bytes_of s w
  have KB := Lib.hid kb
  have HBC := Lib.hid hbc
  clear kb hbc
  go_enter Try.func12, Try.ntmps12
  go_wp2_with fail
  clear hcv
  go_loopw [8] (fun c wr => ∃ j : Nat, j ≤ s.length ∧ c = .int .i64 (j : Int) ∧ wr = wb ∧ Hid (∀ i (h : i < s.length), i < j → inName i s[i] = true)) (fun c _ => s.length - (intOf c).toNat)
  case atStart => exact ⟨0, by omega, rfl, rfl, Lib.hid (fun i h hi => by omega)⟩
  case round =>
    obtain ⟨j, hj, rfl, rfl, HH⟩ := hrel
    by_cases hlt : j < s.length
    · have q0 := HBC.out j hlt
      obtain ⟨c, HC⟩ : ∃ c, Hid (s[j]'hlt = c) := ⟨_, rfl⟩
      rw [HC.out] at q0
      cases hin : inName j c with
      | true =>
        have hnext : Hid (∀ i (h : i < s.length), i < j + 1 → inName i s[i] = true) := Lib.hid fun i h hi => by
          by_cases e : i = j
          · subst e; rw [HC.out]; exact hin
          · exact HH.out i h (by omega)
        obtain ⟨h1, h2⟩ := inName_more hin
        have HM := Lib.hid h1
        have HL := Lib.hid h2
        clear hin h1 h2
        by_cases hj0 : j = 0
        · subst hj0
          have HL0 := Lib.hid (HL.out rfl)
          go_wp2_with (first
            | (go_at_call 24; refine (more_is _ true _ HM.out).mono ?_; rintro e w4 ⟨rfl, rfl⟩)
            | (go_at_call 25; refine (low_is _ true _ HL0.out).mono ?_; rintro e w5 ⟨rfl, rfl⟩))
          go_roundw
          case rel => exact ⟨1, by omega, by go_num, trivial, hnext⟩
          case measure => simp [intOf]; omega
        · have e1 : ((j : Int) == 0) = false := by simp; omega
          go_wp2_with (first
            | (go_at_call 24; refine (more_is _ true _ HM.out).mono ?_; rintro e w4 ⟨rfl, rfl⟩))
          go_roundw
          case rel => exact ⟨j + 1, by omega, by go_num, trivial, hnext⟩
          case measure => simp [intOf]; omega
      | false =>
        have hno : r = false := by rw [← HR.out]; exact named_no hlt (by rw [HC.out]; exact hin)
        subst hno
        rcases inName_less hin with h1 | ⟨rfl, h1, h2⟩
        · have HM := Lib.hid h1
          clear hin h1
          go_wp2_with (go_at_call 24; refine (more_is _ false _ HM.out).mono ?_; rintro e w4 ⟨rfl, rfl⟩)
          go_ret
          exact ⟨rfl, KB.out⟩
        · have HM := Lib.hid h1
          have HL := Lib.hid h2
          clear hin h1 h2
          go_wp2_with (first
            | (go_at_call 24; refine (more_is _ true _ HM.out).mono ?_; rintro e w4 ⟨rfl, rfl⟩)
            | (go_at_call 25; refine (low_is _ false _ HL.out).mono ?_; rintro e w5 ⟨rfl, rfl⟩))
          go_ret
          exact ⟨rfl, KB.out⟩
    · obtain rfl : j = s.length := by omega
      have hall : ∀ i (h : i < s.length), inName i s[i] = true := fun i h => HH.out i h h
      by_cases h1 : 1 ≤ s.length
      · have h1' : (1 : Int) ≤ (s.length : Int) := by omega
        by_cases h2 : s.length ≤ 20
        · have h2' : (s.length : Int) ≤ 20 := by omega
          obtain rfl : r = true := by rw [← HR.out]; exact named_yes h1 h2 hall
          clear h1 h2 hall
          go_wp2_with fail
          go_ret
          exact ⟨rfl, KB.out⟩
        · have h2' : ¬ (s.length : Int) ≤ 20 := by omega
          obtain rfl : r = false := by rw [← HR.out]; unfold named; simp [h2]
          clear h1 h2 hall
          go_wp2_with fail
          go_ret
          exact ⟨rfl, KB.out⟩
      · have h1' : ¬ (1 : Int) ≤ (s.length : Int) := by omega
        obtain rfl : r = false := by rw [← HR.out]; unfold named; simp [h1]
        clear h1 hall
        go_wp2_with fail
        go_ret
        exact ⟨rfl, KB.out⟩
end Go.Proofs.Ytplbdlgmjehckaa
