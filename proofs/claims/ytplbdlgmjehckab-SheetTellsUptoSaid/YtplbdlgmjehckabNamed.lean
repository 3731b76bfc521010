/-
  Which texts are names: page.Named.
-/
import Derived.Test.YtplbdlgmjehckabMem
import Derived.Test.YtplbdlgmjehckabStr
namespace Go.Proofs.Ytplbdlgmjehckab
open Go.RowKit
set_option linter.unusedVariables false
set_option linter.unusedSimpArgs false

theorem named_yes {s : B} (h1 : 1 ≤ s.length) (h2 : s.length ≤ 20) (h : ∀ j (h : j < s.length), inName j s[j] = true) : named s = true := by
  unfold named
  have : nameLen s = s.length := by
    have h3 := nameLen_le s
    rcases Nat.lt_or_ge (nameLen s) s.length with h4 | h4
    · have := nameLen_out s h4
      rw [h _ h4] at this; cases this
    · omega
  simp [h1, h2, this]
theorem named_no {s : B} {k : Nat} (hk : k < s.length) (h : inName k s[k] = false) : named s = false := by
  unfold named
  have : nameLen s ≠ s.length := by
    intro e
    obtain ⟨_, h2⟩ := nameLen_in s k (by omega)
    rw [h] at h2; cases h2
  simp [this]

def NamedEnds (w : World) (r : Bool) (e : Ending) (w' : World) : Prop := e = .returned (.bool r) ∧ w' = w

set_option maxHeartbeats 1600000 in
theorem named_any (w : World) (s : B) : Calls Try.prog 49 #[.string (str s)] w (NamedEnds w (named s)) := by
  by_cases hl0 : s.length < 1
  · have hsz : (s.length : Int) < 1 := by omega
    go_enter Try.func49, Try.ntmps49
    go_wp2
    go_ret
    exact ⟨retb (by unfold named; have : ¬ 1 ≤ s.length := by omega
                    simp [this]), rfl⟩
  · by_cases hl20 : 20 < s.length
    · have hsz : ¬ (s.length : Int) < 1 := by omega
      have hsz2 : 20 < (s.length : Int) := by omega
      go_enter Try.func49, Try.ntmps49
      go_wp2
      go_ret
      exact ⟨retb (by unfold named; have : ¬ s.length ≤ 20 := by omega
                      simp [this]), rfl⟩
    · have hsz : ¬ (s.length : Int) < 1 := by omega
      have hsz2 : ¬ 20 < (s.length : Int) := by omega
      go_enter Try.func49, Try.ntmps49
      go_wp2
      go_loop [15] (fun k => ∃ j : Nat, j ≤ s.length ∧ k = .int .i64 j ∧ Hid (∀ i (h : i < s.length), i < j → inName i s[i] = true)) (fun k => s.length - (intOf k).toNat)
      case atStart => exact ⟨0, by omega, rfl, fun i h hi => by omega⟩
      case round =>
        obtain ⟨j, hj, rfl, HH⟩ := hrel
        by_cases hlt : j < s.length
        · cases hin : inName j s[j] with
          | true =>
            have hnext : Hid (∀ i (h : i < s.length), i < j + 1 → inName i s[i] = true) := Lib.hid fun i h hi => by
              by_cases e : i = j
              · subst e; exact hin
              · exact HH.out i h (by omega)
            have h4 := inName_yes hin
            clear hin
            rcases h4 with ⟨h5, h6⟩ | ⟨h5, h6, h7⟩ | ⟨h5, h6⟩
            · go_wp2
              go_round
              case rel => exact ⟨j + 1, by omega, by go_num, hnext⟩
              case measure => simp [intOf]; omega
            · have e1 : ((j : Int) == 0) = false := by simp; omega
              have e2 : (((s[j]'hlt).toNat : Int) != 45) = true := by simp; omega
              go_wp2
              go_round
              case rel => exact ⟨j + 1, by omega, by go_num, hnext⟩
              case measure => simp [intOf]; omega
            · have e1 : ((j : Int) == 0) = false := by simp; omega
              have e2 : (((s[j]'hlt).toNat : Int) != 45) = false := by simp; omega
              have e3 : ((s[j]'hlt).toNat : Int) < 48 := by omega
              clear h6
              go_wp2
              go_round
              case rel => exact ⟨j + 1, by omega, by go_num, hnext⟩
              case measure => simp [intOf]; omega
          | false =>
            have hno := named_no hlt hin
            have HNO := Lib.hid hno
            obtain ⟨h5, h6⟩ := inName_no hin
            clear hno hin
            by_cases hj0 : j = 0
            · subst hj0
              clear h6
              rcases h5 with h5 | h5
              all_goals
                go_wp2
                all_goals first
                  | (go_ret; exact ⟨retb HNO.out.symm, rfl⟩)
                  | (exfalso; omega)
            · have h7 := h6.resolve_left hj0
              obtain ⟨h8, h9⟩ := h7
              have e1 : ((j : Int) == 0) = false := by simp; omega
              have e2 : (((s[j]'hlt).toNat : Int) != 45) = true := by simpa using h9
              clear h6 h9
              rcases h5 with h5 | h5 <;> rcases h8 with h8 | h8 <;> (try (exfalso; omega))
              all_goals
                go_wp2
                go_ret
                exact ⟨retb HNO.out.symm, rfl⟩
        · go_wp2
          go_ret
          exact ⟨retb (named_yes (by omega) (by omega) (fun i h => HH.out i h (by omega))).symm, rfl⟩


end Go.Proofs.Ytplbdlgmjehckab
