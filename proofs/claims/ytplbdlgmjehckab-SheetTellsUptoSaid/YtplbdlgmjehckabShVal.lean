/-
  The reader of sheets: a value.
-/
import Derived.Test.YtplbdlgmjehckabShBase
import Derived.Test.YtplbdlgmjehckabShTurns
namespace Go.Proofs.Ytplbdlgmjehckab
open Go.RowKit
set_option linter.unusedVariables false
set_option linter.unusedSimpArgs false

theorem index_sign (c : UInt8) : decide (0 ≤ Lib.indexByte [35, 46, 37, 45] c) = (decide (c.toNat = 35) || decide (c.toNat = 46) || decide (c.toNat = 37) || decide (c.toNat = 45)) := by
  have h : ∀ a b : UInt8, (a == b) = decide (b.toNat = a.toNat) := fun a b => by
    rw [Bool.eq_iff_iff, beq_iff_eq, decide_eq_true_eq]
    constructor
    · rintro rfl; rfl
    · intro h; exact (UInt8.toNat_inj.1 h).symm
  have e35 : (35 : UInt8).toNat = 35 := rfl
  have e46 : (46 : UInt8).toNat = 46 := rfl
  have e37 : (37 : UInt8).toNat = 37 := rfl
  have e45 : (45 : UInt8).toNat = 45 := rfl
  simp only [Lib.indexByte, h, e35, e46, e37, e45]
  by_cases h1 : c.toNat = 35
  · simp [h1]
  · by_cases h2 : c.toNat = 46
    · simp [h2]
    · by_cases h3 : c.toNat = 37
      · simp [h3]
      · by_cases h4 : c.toNat = 45
        · simp [h4]
        · simp [h1, h2, h3, h4]

set_option maxRecDepth 100000 in
set_option maxHeartbeats 800000 in
theorem word_any (c : UInt8) (w : World) :
    Calls Try.prog 55 #[.int .u8 (c.toNat : Int)] w fun e w' => e = .returned (.bool (isWord c)) ∧ w' = w := by
  have hc := c.toNat_lt
  have hcI : (c.toNat : Int) < 256 := by omega
  have hs : Hid (decide (0 ≤ Lib.indexByte [35, 46, 37, 45] c) = (decide (c.toNat = 35) || decide (c.toNat = 46) || decide (c.toNat = 37) || decide (c.toNat = 45))) := Lib.hid (index_sign c)
  by_cases h1 : 97 ≤ c.toNat ∧ c.toNat ≤ 122
  · have e : isWord c = true := by unfold isWord isLow; simp [h1.1, h1.2]
    have q1 : (97 : Int) ≤ (c.toNat : Int) := by omega
    have q2 : (c.toNat : Int) ≤ 122 := by omega
    rw [e]
    go_enter Try.func55, Try.ntmps55
    go_wp2_with fail
    go_ret
    exact ⟨rfl, rfl⟩
  · by_cases h2 : 48 ≤ c.toNat ∧ c.toNat ≤ 57
    · have e : isWord c = true := by unfold isWord; simp [h2.1, h2.2]
      have q1 : (48 : Int) ≤ (c.toNat : Int) := by omega
      have q2 : (c.toNat : Int) ≤ 57 := by omega
      rw [e]
      go_enter Try.func55, Try.ntmps55
      go_wp2_with fail
      go_ret
      exact ⟨rfl, rfl⟩
    · have e : isWord c = decide (0 ≤ Lib.indexByte [35, 46, 37, 45] c) := by
        rw [hs.out]
        unfold isWord isLow
        have a1 : (decide (97 ≤ c.toNat) && decide (c.toNat ≤ 122)) = false := by simp; omega
        have a2 : (decide (48 ≤ c.toNat) && decide (c.toNat ≤ 57)) = false := by simp; omega
        rw [a1, a2]; simp
      have e1 : decide ((97 : Int) ≤ (c.toNat : Int)) = decide (97 ≤ c.toNat) := by rw [Bool.eq_iff_iff]; simp; omega
      rw [e]
      clear e
      have hcall : ∀ W, Calls Try.prog 61 #[.string ⟨#[35, 46, 37, 45]⟩, .int .u8 (c.toNat : Int)] W fun e w' => e = .returned (.int .i64 (Lib.indexByte [35, 46, 37, 45] c)) ∧ w' = W := fun W => by
        have := Try.strings_IndexByte (str [35, 46, 37, 45]) (c.toNat : Int) W
        have hcc : (c.toNat : Int).toNat.toUInt8 = c := by simp
        rw [hcc] at this
        exact this
      have HC := Lib.hid hcall
      clear hcall hs
      clear e1
      by_cases h3 : 97 ≤ c.toNat
      · have q1 : decide ((97 : Int) ≤ (c.toNat : Int)) = true := by simp; omega
        have q2 : decide ((c.toNat : Int) ≤ 122) = false := by simp; omega
        have q3 : decide ((48 : Int) ≤ (c.toNat : Int)) = true := by simp; omega
        have q4 : decide ((c.toNat : Int) ≤ 57) = false := by simp; omega
        go_enter Try.func55, Try.ntmps55
        go_wp2_with fail
        refine (HC.out _).mono ?_
        rintro e w1 ⟨rfl, rfl⟩
        go_wp2_with fail
        go_ret
        exact ⟨rfl, rfl⟩
      · by_cases h4 : 48 ≤ c.toNat
        · have q1 : decide ((97 : Int) ≤ (c.toNat : Int)) = false := by simp; omega
          have q3 : decide ((48 : Int) ≤ (c.toNat : Int)) = true := by simp; omega
          have q4 : decide ((c.toNat : Int) ≤ 57) = false := by simp; omega
          go_enter Try.func55, Try.ntmps55
          go_wp2_with fail
          refine (HC.out _).mono ?_
          rintro e w1 ⟨rfl, rfl⟩
          go_wp2_with fail
          go_ret
          exact ⟨rfl, rfl⟩
        · have q1 : decide ((97 : Int) ≤ (c.toNat : Int)) = false := by simp; omega
          have q3 : decide ((48 : Int) ≤ (c.toNat : Int)) = false := by simp; omega
          go_enter Try.func55, Try.ntmps55
          go_wp2_with fail
          refine (HC.out _).mono ?_
          rintro e w1 ⟨rfl, rfl⟩
          go_wp2_with fail
          go_ret
          exact ⟨rfl, rfl⟩

theorem join_is : ∀ ws : List B, Lib.join ws [32] = joinW ws
  | [] => rfl
  | [w] => by simp [Lib.join, joinW]
  | w :: x :: ws => by
    have := join_is (x :: ws)
    rw [joinW_cons w (x :: ws) (by simp), ← this]
    simp [Lib.join, List.intercalate, List.intersperse]

end Go.Proofs.Ytplbdlgmjehckab
