/-
  strings.Split at a blank, said of lists of bytes.
-/
import Derived.Test.YtplbdlgmjehckacDoorPrSpec
import Derived.Test.YtplbdlgmjehckacDoorRet
import Derived.Test.YtplbdlgmjehckacDoorShelf
import Derived.Lib.SplitLaws
namespace Go.Proofs.YtplbdlgmjehckacDoor
open Go.RowKit
set_option linter.unusedVariables false
set_option linter.unusedSimpArgs false

theorem index_blank (l : B) : Lib.index (32 :: l) [32] = 0 := by rw [Lib.index]; simp [List.isPrefixOf]
theorem index_other {c : UInt8} (l : B) (h : c ≠ 32) : Lib.index (c :: l) [32] = if Lib.index l [32] == -1 then -1 else Lib.index l [32] + 1 := by
  have hp : ([32] : List UInt8).isPrefixOf (c :: l) = false := by simp [List.isPrefixOf, Ne.symm h]
  rw [Lib.index, hp]; simp
theorem splitK_blank : ∀ (l : B) (k : Nat), l.count 32 = k → Lib.splitK [32] 0 k l = splitB l
  | [], k, h => by
    have : k = 0 := by rw [← h]; rfl
    subst this; rfl
  | c :: t, k, h => by
    by_cases hc : c = 32
    · subst hc
      rw [List.count_cons_self] at h
      subst h
      simp only [Lib.splitK, index_blank, splitB, if_pos]
      rw [if_neg (by simp)]
      simp only [Int.toNat_zero, Nat.zero_add, List.take_zero, List.length_cons, List.length_nil, List.drop_succ_cons, List.drop_zero]
      rw [splitK_blank t _ rfl]
    · rw [List.count_cons_of_ne (by simpa using hc)] at h
      have ih := splitK_blank t k h
      simp only [splitB]
      rw [if_neg hc, ← ih]
      cases k with
      | zero => simp [Lib.splitK]
      | succ j =>
        have hi : Lib.index t [32] ≠ -1 := by
          intro hm
          have := Lib.count_miss (sub := [32]) hm
          rw [Lib.count_one] at this
          omega
        have hge := Lib.index_ge t [32]
        obtain ⟨i, hi2⟩ : ∃ i : Nat, Lib.index t [32] = i := ⟨(Lib.index t [32]).toNat, by omega⟩
        simp only [Lib.splitK, index_other t hc, hi2]
        have h1 : ¬ (((i : Int) == -1) = true) := by simp
        have h2 : ¬ (((i : Int) + 1 == -1) = true) := by simp; omega
        simp only [if_neg h1, if_neg h2]
        have e : ((i : Int) + 1).toNat = i + 1 := by omega
        simp [e]
theorem split_words (l : B) : Lib.splitB (str [32]) 0 (Lib.countB (str l) (str [32])) (str l) = (splitB l).map str := by
  have h := Lib.splitB_data (str [32]) 0 (Lib.countB (str l) (str [32])) (str l)
  have hc : Lib.countB (str l) (str [32]) = l.count 32 := by
    show Lib.count l [32] = _
    rw [Lib.count_one]
  have h2 : Lib.splitK (str [32]).data.toList 0 (Lib.countB (str l) (str [32])) (str l).data.toList = splitB l := by
    rw [hc]; exact splitK_blank l _ rfl
  rw [h2] at h
  rw [← h, List.map_map]
  conv => lhs; rw [← List.map_id (Lib.splitB (str [32]) 0 (Lib.countB (str l) (str [32])) (str l))]
  apply List.map_congr_left
  intro x _
  exact eq_str x
theorem split_count (l : B) : Lib.countB (str l) (str [32]) + 1 = (splitB l).length := by
  have h := Lib.splitB_all (str [32]) (by decide) 0 _ (str l) rfl
  rw [split_words, List.length_map] at h
  exact h.symm
theorem splitB_len (l : B) : (splitB l).length ≤ l.length + 1 := by
  induction l with
  | nil => simp [splitB]
  | cons c t ih =>
    simp only [splitB]
    split
    · simpa using ih
    · split
      · simp
      · rename_i w ws h; rw [h] at ih; simp at ih ⊢; omega
theorem splitB_part : ∀ (l : B), ∀ x ∈ splitB l, x.length ≤ l.length := by
  intro l
  induction l with
  | nil => simp [splitB]
  | cons c t ih =>
    simp only [splitB]
    split
    · intro x hx
      rcases List.mem_cons.1 hx with rfl | hx
      · simp
      · have := ih x hx; simp; omega
    · split
      · intro x hx; simp at hx; subst hx; simp
      · rename_i w ws h
        rw [h] at ih
        intro x hx
        rcases List.mem_cons.1 hx with rfl | hx
        · have := ih w (by simp); simp; omega
        · have := ih x (by simp [hx]); simp; omega

def strCells (x : B) : List Value := [.string (str x)]
theorem split_any (l : B) (m : Int) (w : World) (hl : l.length < 4294967281) (hm : w.cell? ⟨0, 0, none⟩ = some (.int .i64 m)) :
    Calls Tryd.prog 52 #[.string (str l), .string (str [32])] w fun e w' => e = .returned (.slice (some ⟨w.heap.size, 0, none⟩) (splitB l).length (splitB l).length) ∧
      w' = w.alloc (.cells ((splitB l).map fun x => Value.string (str x)).toArray 9 (0, 0)) :=
  (Tryd.strings_Split (str l) (str [32]) m w hl hm (by decide)).mono fun e w' ⟨he, hw⟩ => by
    rw [split_count] at he
    rw [split_words, List.map_map] at hw
    exact ⟨he, hw⟩
end Go.Proofs.YtplbdlgmjehckacDoor
