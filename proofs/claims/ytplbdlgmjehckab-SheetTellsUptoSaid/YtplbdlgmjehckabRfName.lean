/-
  The document's answer: Low, More, name, find.
-/
import Derived.Test.YtplbdlgmjehckabRfWalk
namespace Go.Proofs.Ytplbdlgmjehckab
open Go.RowKit
set_option linter.unusedVariables false
set_option linter.unusedSimpArgs false

theorem low_num (c : UInt8) : isLow c = (decide (97 ≤ (c.toNat : Int)) && decide ((c.toNat : Int) ≤ 122)) := by
  unfold isLow; rw [Bool.eq_iff_iff]; simp; omega
set_option maxHeartbeats 400000 in
theorem low_is (c : UInt8) (x : Bool) (w : World) (hx : isLow c = x) : Calls Try.prog 53 #[.int .u8 (c.toNat : Int)] w fun e w' => e = .returned (.bool x) ∧ w' = w := by
  rw [low_num] at hx
  have HX := Lib.hid hx
  clear hx
  go_enter Try.func53, Try.ntmps53
  by_cases h1 : 97 ≤ (c.toNat : Int)
  · by_cases h2 : (c.toNat : Int) ≤ 122
    · go_wp2
      go_ret
      exact ⟨retb (by rw [← HX.out]; simp [h1, h2]), rfl⟩
    · go_wp2
      go_ret
      exact ⟨retb (by rw [← HX.out]; simp [h1, h2]), rfl⟩
  · go_wp2
    go_ret
    exact ⟨retb (by rw [← HX.out]; simp; omega), rfl⟩

theorem more_num (c : UInt8) : isMore c = (isLow c || (decide (48 ≤ (c.toNat : Int)) && decide ((c.toNat : Int) ≤ 57)) || ((c.toNat : Int) == 45)) := by
  have e1 : decide (c.toNat = 45) = ((c.toNat : Int) == 45) := by
    rw [Bool.eq_iff_iff, decide_eq_true_iff, beq_iff_eq]; omega
  have e2 : decide (48 ≤ c.toNat) = decide (48 ≤ (c.toNat : Int)) := by
    rw [Bool.eq_iff_iff, decide_eq_true_iff, decide_eq_true_iff]; omega
  have e3 : decide (c.toNat ≤ 57) = decide ((c.toNat : Int) ≤ 57) := by
    rw [Bool.eq_iff_iff, decide_eq_true_iff, decide_eq_true_iff]; omega
  unfold isMore; rw [e1, e2, e3]
set_option maxHeartbeats 800000 in
theorem more_is (c : UInt8) (x : Bool) (w : World) (hx : isMore c = x) : Calls Try.prog 52 #[.int .u8 (c.toNat : Int)] w fun e w' => e = .returned (.bool x) ∧ w' = w := by
  rw [more_num] at hx
  cases hlow : isLow c with
  | true =>
    rw [hlow] at hx
    obtain rfl : x = true := by rw [← hx]; rfl
    clear hx
    go_enter Try.func52, Try.ntmps52
    go_wp2_with (go_at_call 53; refine (low_is c true _ hlow).mono ?_; rintro e w2 ⟨rfl, rfl⟩)
    go_ret
    exact ⟨rfl, rfl⟩
  | false =>
    rw [hlow] at hx
    have HX := Lib.hid hx
    clear hx
    go_enter Try.func52, Try.ntmps52
    cases h3 : ((c.toNat : Int) == 45) with
    | true =>
      have h45 : (c.toNat : Int) < 48 := by simp at h3; omega
      go_wp2_with (go_at_call 53; refine (low_is c false _ hlow).mono ?_; rintro e w2 ⟨rfl, rfl⟩)
      go_ret
      exact ⟨retb (by rw [← HX.out]; simp [h3]), rfl⟩
    | false =>
      by_cases h1 : 48 ≤ (c.toNat : Int)
      · by_cases h2 : (c.toNat : Int) ≤ 57
        · go_wp2_with (go_at_call 53; refine (low_is c false _ hlow).mono ?_; rintro e w2 ⟨rfl, rfl⟩)
          go_ret
          exact ⟨retb (by rw [← HX.out]; simp [h1, h2]), rfl⟩
        · go_wp2_with (go_at_call 53; refine (low_is c false _ hlow).mono ?_; rintro e w2 ⟨rfl, rfl⟩)
          go_ret
          exact ⟨retb (by rw [← HX.out, h3]; simp [h1, h2]), rfl⟩
      · go_wp2_with (go_at_call 53; refine (low_is c false _ hlow).mono ?_; rintro e w2 ⟨rfl, rfl⟩)
        go_ret
        exact ⟨retb (by rw [← HX.out, h3]; simp; omega), rfl⟩

/-- where a text stands first in s, from a on -/
def absFind (s word : B) (a : Nat) : Option Nat := (findSub word (s.drop a)).map (a + ·)
theorem absFind_here {s word : B} {a : Nat} (h : word.isPrefixOf (s.drop a) = true) (hl : a < s.length) : absFind s word a = some a := by
  unfold absFind
  rw [List.drop_eq_getElem_cons hl] at h ⊢
  simp only [findSub, h, if_true]
  rfl
theorem absFind_next {s word : B} {a : Nat} (h : word.isPrefixOf (s.drop a) = false) (hl : a < s.length) : absFind s word a = absFind s word (a + 1) := by
  unfold absFind
  rw [List.drop_eq_getElem_cons hl] at h ⊢
  simp only [findSub, h]
  cases findSub word (s.drop (a + 1)) with
  | none => rfl
  | some k => simp; omega
theorem absFind_end {s word : B} {a : Nat} (hl : s.length < a + word.length) (hw : word ≠ []) (ha : a ≤ s.length) : absFind s word a = none := by
  unfold absFind
  cases hf : findSub word (s.drop a) with
  | none => rfl
  | some k =>
    have := findSub_le _ _ _ hf
    rw [List.length_drop] at this
    omega

set_option maxHeartbeats 800000 in
theorem find_any (word : B) (r : Option Nat) (w : World) (b : Nat) (s : B) (a : Nat) (f : Flt) (v : Value) (h : WkAt w b s a f v) (hw : word.length ≤ 100) (hne : word ≠ []) (hx : absFind s word a = r) :
    Calls Try.prog 51 #[.pointer (some ⟨b, 0, none⟩), .string (str word)] w fun e w' => e = .returned (.int .i64 (idx r)) ∧ w' = w := by
  have H := Lib.hid h
  have HX := Lib.hid hx
  have c0 := h.c0
  have c1 := h.c1
  have hl := h.2.1
  have hm := h.2.2
  have hw1 : 1 ≤ word.length := List.length_pos_iff.2 hne
  clear h hx
  go_enter Try.func51, Try.ntmps51
  go_wp2
  go_loop [5] (fun k => ∃ j : Nat, a ≤ j ∧ j ≤ s.length ∧ k = .int .i64 (j : Int) ∧ Hid (absFind s word j = r)) (fun k => s.length - (intOf k).toNat)
  case atStart => exact ⟨a, Nat.le_refl _, hl, rfl, HX⟩
  case round =>
    obtain ⟨j, hj1, hj2, rfl, HJ⟩ := hrel
    by_cases hle : j + word.length ≤ s.length
    · have hjl : j < s.length := by omega
      cases hp : word.isPrefixOf (s.drop j) with
      | true =>
        have he : ((s.drop j).take word.length == word) = true := by rw [prefix_eq word s j hle]; exact hp
        have hr : r = some j := by rw [← HJ.out]; exact absFind_here hp hjl
        clear hp
        go_wp2
        go_ret
        exact ⟨by first | rfl | (rw [hr]; rfl), rfl⟩
      | false =>
        have he : ((s.drop j).take word.length == word) = false := by rw [prefix_eq word s j hle]; exact hp
        have hnext : Hid (absFind s word (j + 1) = r) := Lib.hid (by rw [← HJ.out]; exact (absFind_next hp hjl).symm)
        clear hp
        go_wp2
        go_round
        case rel => exact ⟨j + 1, by omega, by omega, by go_num, hnext⟩
        case measure => simp [intOf]; omega
    · have hr : r = none := by rw [← HJ.out]; exact absFind_end (by omega) hne hj2
      go_wp2
      go_ret
      exact ⟨by first | rfl | (rw [hr]; rfl), rfl⟩

end Go.Proofs.Ytplbdlgmjehckab
