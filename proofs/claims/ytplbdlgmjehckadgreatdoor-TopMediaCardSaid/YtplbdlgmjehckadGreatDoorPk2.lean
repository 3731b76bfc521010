/-
  Lemmas for the claims of this seat: the program's functions walked, and plain laws. In this order: ShLoc2 ShSeg.
-/
import Derived.Test.YtplbdlgmjehckadGreatDoorPk1
namespace Go.Proofs.YtplbdlgmjehckadGreatDoor
set_option linter.unusedVariables false
set_option linter.unusedSimpArgs false
theorem name_pos {l l' v : B} {a a' : Nat} (h : sName l a = .ok (v, l', a')) : 0 < v.length ∧ l = v ++ l' ∧ a' = a + v.length ∧ v.length ≤ 20 ∧ nameLen l = v.length := by
  unfold sName at h
  split at h
  · cases h
  · rename_i hn
    cases h
    have hle := nameLen_le l
    have : (l.take (nameLen l)).length = nameLen l := by simp; omega
    exact ⟨by omega, (List.take_append_drop _ _).symm, by omega, by omega, this.symm⟩
theorem attrTest_loc : Loc sAttrTest := by
  intro l a v l' a' h
  unfold sAttrTest at h
  obtain ⟨⟨nm, l1, a1⟩, h1, h⟩ := then_ok h
  obtain ⟨t1, rfl, rfl, k1⟩ := name_loc _ _ _ _ _ h1
  simp only at h
  split at h
  · cases h
  · rename_i hns
    split at h
    · rename_i hp
      obtain ⟨r, rfl, hd⟩ := prefix_split hp
      rw [show ([61] : B).length = 1 from rfl] at hd
      rw [hd] at h
      obtain ⟨⟨v2, l2, a2⟩, h2, h⟩ := then_ok h
      obtain ⟨t2, rfl, rfl, k2⟩ := name_loc _ _ _ _ _ h2
      obtain ⟨⟨l3, a3⟩, h3, h⟩ := then_ok h
      obtain ⟨rfl, rfl, k3⟩ := must_loc h3
      cases h
      refine ⟨t1 ++ ([61] ++ (t2 ++ [93])), by simp, by simp; omega, fun m b hs => ?_⟩
      unfold sAttrTest
      have e1 := k1 ([61] ++ (t2 ++ ([93] ++ m))) b (((hs.pre [93]).pre t2).pre [61])
      rw [show (t1 ++ ([61] ++ (t2 ++ [93]))) ++ m = t1 ++ ([61] ++ (t2 ++ ([93] ++ m))) from by simp]
      rw [then_of e1]
      simp only
      rw [if_neg hns, if_pos (prefix_pos _ _)]
      have e2 := k2 ([93] ++ m) (b + t1.length + 1) (hs.pre [93])
      have hd2 : ([61] ++ (t2 ++ ([93] ++ m))).drop 1 = t2 ++ ([93] ++ m) := rfl
      rw [hd2, then_of e2]
      simp only
      rw [then_of (k3 m _)]
      simp; omega
    · rename_i hp
      obtain ⟨⟨l3, a3⟩, h3, h⟩ := then_ok h
      obtain ⟨rfl, rfl, k3⟩ := must_loc h3
      cases h
      refine ⟨t1 ++ [93], by simp, by simp; omega, fun m b hs => ?_⟩
      unfold sAttrTest
      have e1 := k1 ([93] ++ m) b (hs.pre [93])
      rw [show (t1 ++ [93]) ++ m = t1 ++ ([93] ++ m) from by simp, then_of e1]
      simp only
      rw [if_neg hns, if_neg (by simp [List.isPrefixOf]), then_of (k3 m _)]
      simp; omega
theorem test_loc {l : B} {a : Nat} {v : Option PTest} {l' : B} {a' : Nat} (h : sTest l a = .ok (v, l', a')) :
    ∃ t, l = t ++ l' ∧ a' = a + t.length ∧ (v ≠ none → 0 < t.length) ∧ (v = none → t = []) ∧ ∀ m b, Same l' m → sTest (t ++ m) b = .ok (v, m, b + t.length) := by
  unfold sTest at h
  split at h
  · rename_i hp
    obtain ⟨r, rfl, hd⟩ := prefix_split hp
    rw [show ([46] : B).length = 1 from rfl] at hd
    rw [hd] at h
    obtain ⟨⟨nm, l1, a1⟩, h1, h⟩ := then_ok h
    obtain ⟨t1, rfl, rfl, k1⟩ := name_loc _ _ _ _ _ h1
    cases h
    refine ⟨[46] ++ t1, by simp, by simp; omega, by simp, by simp, fun m b hs => ?_⟩
    unfold sTest
    rw [List.append_assoc, if_pos (prefix_pos _ _)]
    have hd2 : ([46] ++ (t1 ++ m)).drop 1 = t1 ++ m := rfl
    rw [hd2, then_of (k1 m _ hs)]
    simp; omega
  · rename_i hp1
    split at h
    · rename_i hp
      obtain ⟨r, rfl, hd⟩ := prefix_split hp
      rw [show ([35] : B).length = 1 from rfl] at hd
      rw [hd] at h
      obtain ⟨⟨nm, l1, a1⟩, h1, h⟩ := then_ok h
      obtain ⟨t1, rfl, rfl, k1⟩ := name_loc _ _ _ _ _ h1
      cases h
      refine ⟨[35] ++ t1, by simp, by simp; omega, by simp, by simp, fun m b hs => ?_⟩
      unfold sTest
      rw [List.append_assoc, if_neg (by simp [List.isPrefixOf]), if_pos (prefix_pos _ _)]
      have hd2 : ([35] ++ (t1 ++ m)).drop 1 = t1 ++ m := rfl
      rw [hd2, then_of (k1 m _ hs)]
      simp; omega
    · rename_i hp2
      split at h
      · rename_i hp
        obtain ⟨r, rfl, hd⟩ := prefix_split hp
        cases h
        refine ⟨firstWord, by simp [firstWord], by simp [firstWord], by simp [firstWord], by simp, fun m b hs => ?_⟩
        unfold sTest
        rw [if_neg (by simp [firstWord, List.isPrefixOf]), if_neg (by simp [firstWord, List.isPrefixOf]), if_pos (prefix_pos _ _)]
        simp [firstWord]
      · rename_i hp3
        split at h
        · rename_i hp
          obtain ⟨r, rfl, hd⟩ := prefix_split hp
          rw [show ([91] : B).length = 1 from rfl] at hd
          rw [hd] at h
          obtain ⟨⟨nm, l1, a1⟩, h1, h⟩ := then_ok h
          obtain ⟨t1, rfl, rfl, k1⟩ := attrTest_loc _ _ _ _ _ h1
          cases h
          refine ⟨[91] ++ t1, by simp, by simp; omega, by simp, by simp, fun m b hs => ?_⟩
          unfold sTest
          rw [List.append_assoc, if_neg (by simp [List.isPrefixOf]), if_neg (by simp [List.isPrefixOf]), if_neg (by simp [firstWord, List.isPrefixOf]), if_pos (prefix_pos _ _)]
          have hd2 : ([91] ++ (t1 ++ m)).drop 1 = t1 ++ m := rfl
          rw [hd2, then_of (k1 m _ hs)]
          simp; omega
        · rename_i hp4
          cases h
          refine ⟨[], rfl, rfl, by simp, by simp, fun m b hs => ?_⟩
          unfold sTest
          rw [List.nil_append, ← hs.one, if_neg hp1, ← hs.one, if_neg hp2, ← hs.word _ free_first, if_neg hp3, ← hs.one, if_neg hp4]
          rfl
theorem testsL_loc : ∀ (f : Nat) (ts : List PTest) (q : Bool) (l : B) (a : Nat) (v : List PTest) (l' : B) (a' : Nat), sTestsL f ts q l a = .ok (v, l', a') →
    ∃ t, l = t ++ l' ∧ a' = a + t.length ∧ (q = false → 0 < t.length) ∧ ∀ (g : Nat) (m : B) (b : Nat), t.length < g → Same l' m → sTestsL g ts q (t ++ m) b = .ok (v, m, b + t.length) := by
  intro f
  induction f with
  | zero => intro ts q l a v l' a' h; cases h
  | succ f ih =>
    intro ts q l a v l' a' h
    rw [sTestsL] at h
    obtain ⟨⟨x, l1, a1⟩, h1, h⟩ := then_ok h
    obtain ⟨t1, rfl, rfl, p1, z1, k1⟩ := test_loc h1
    cases x with
    | none =>
      obtain rfl := z1 rfl
      simp only at h
      split at h
      · rename_i hq
        cases h
        refine ⟨[], rfl, rfl, by simp [hq], fun g m b hg hs => ?_⟩
        cases g with
        | zero => simp at hg
        | succ g =>
          rw [sTestsL]
          rw [then_of (k1 m b hs)]
          simp only
          rw [if_pos hq]; rfl
      · cases h
    | some x =>
      simp only at h
      split at h
      · cases h
      · rename_i hn
        have hpos := p1 (by simp)
        obtain ⟨t2, rfl, rfl, p2, k2⟩ := ih _ _ _ _ _ _ _ h
        refine ⟨t1 ++ t2, by simp, by simp; omega, fun _ => by simp; omega, fun g m b hg hs => ?_⟩
        cases g with
        | zero => simp at hg
        | succ g =>
          rw [sTestsL, List.append_assoc, then_of (k1 (t2 ++ m) b (hs.pre t2))]
          simp only
          rw [if_neg hn, k2 g m _ (by simp at hg; omega) hs]
          simp; omega
theorem tests_loc : Loc sTests ∧ ∀ l a v l' a', sTests l a = .ok (v, l', a') → a < a' := by
  have main : ∀ l a v l' a', sTests l a = .ok (v, l', a') → ∃ t, l = t ++ l' ∧ a' = a + t.length ∧ 0 < t.length ∧ ∀ m b, Same l' m → sTests (t ++ m) b = .ok (v, m, b + t.length) := by
    intro l a v l' a' h
    unfold sTests at h
    obtain ⟨⟨ts, q, l1, a1⟩, h1, h⟩ := then_ok h
    obtain ⟨t2, hl1, rfl, p2, k2⟩ := testsL_loc _ _ _ _ _ _ _ _ h
    unfold sHead at h1
    split at h1
    · rename_i hp
      obtain ⟨r, rfl, hd⟩ := prefix_split hp
      rw [show ([42] : B).length = 1 from rfl] at hd
      rw [hd] at h1
      cases h1
      subst hl1
      refine ⟨[42] ++ t2, by simp, by simp; omega, by simp, fun m b hs => ?_⟩
      unfold sTests sHead
      rw [List.append_assoc, if_pos (prefix_pos _ _)]
      have hd2 : ([42] ++ (t2 ++ m)).drop 1 = t2 ++ m := rfl
      rw [hd2, Ans.ok_then]
      simp only
      rw [k2 _ m _ (by simp; omega) hs]
      simp; omega
    · rename_i hp
      split at h1
      · rename_i hn0
        cases h1
        subst hl1
        have hpos := p2 rfl
        refine ⟨t2, rfl, rfl, hpos, fun m b hs => ?_⟩
        have hsm : (t2 ++ m).head? = (t2 ++ l').head? := by
          cases t2 with
          | nil => simp at hpos
          | cons c t => rfl
        unfold sTests sHead
        rw [one_prefix, hsm, ← one_prefix, if_neg hp]
        have : nameLen (t2 ++ m) = 0 := by
          cases t2 with
          | nil => simp at hpos
          | cons c t =>
            rw [List.cons_append, nameLen_eq] at hn0 ⊢
            split at hn0
            · rename_i hc
              have hm : isMore c = true := by simp [isMore, hc]
              rw [List.takeWhile_cons, if_pos hm] at hn0
              simp at hn0
            · rename_i hc; rw [if_neg hc]
        rw [if_pos this, Ans.ok_then]
        simp only
        rw [k2 _ m _ (by simp; omega) hs]
      · rename_i hn0
        obtain ⟨⟨nm, l2, a2⟩, h2, h1⟩ := then_ok h1
        cases h1
        obtain ⟨hnl, hnm, hna, _, hnn⟩ := name_pos h2
        obtain ⟨t1, rfl, hta, k1⟩ := name_loc _ _ _ _ _ h2
        have ht1 : t1.length = nm.length := by omega
        subst hl1 hta
        refine ⟨t1 ++ t2, by simp, by simp; omega, by simp; omega, fun m b hs => ?_⟩
        unfold sTests sHead
        have e1 := k1 (t2 ++ m) b (hs.pre t2)
        obtain ⟨_, _, _, _, hnn2⟩ := name_pos e1
        have h42 : ¬ ([42] : B).isPrefixOf (t1 ++ (t2 ++ m)) = true := by
          cases t1 with
          | nil => simp at ht1; omega
          | cons c t => rw [one_prefix] at hp ⊢; exact hp
        rw [List.append_assoc, if_neg h42, if_neg (by omega), then_of e1]
        simp only [Ans.ok_then]
        rw [k2 _ m _ (by simp; omega) hs]
        simp; omega
  exact ⟨fun l a v l' a' h => by obtain ⟨t, h1, h2, _, h3⟩ := main l a v l' a' h; exact ⟨t, h1, h2, h3⟩,
    fun l a v l' a' h => by obtain ⟨t, h1, h2, h3, _⟩ := main l a v l' a' h; omega⟩
theorem selEnds_same {g : Bool} {l m : B} (h : Same l m) : selEnds g l = selEnds g m := by
  unfold selEnds; rw [h.isEmpty, h.one, h.one]
theorem join_loc : Loc sJoin := by
  intro l a v l' a' h
  unfold sJoin at h
  obtain ⟨⟨l1, a1⟩, h1, h⟩ := then_ok h
  obtain ⟨t1, g1, rfl, rfl, st1, k1⟩ := gap_loc h1
  simp only at h
  split at h
  · rename_i hp
    obtain ⟨r, rfl, hd⟩ := prefix_split hp
    rw [show ([62] : B).length = 1 from rfl] at hd
    rw [hd] at h
    obtain ⟨⟨l2, a2⟩, h2, h⟩ := then_ok h
    obtain ⟨t2, g2, rfl, rfl, st2, k2⟩ := gap_loc h2
    cases h
    refine ⟨t1 ++ ([62] ++ t2), by simp, by simp; omega, fun m b hs => ?_⟩
    unfold sJoin
    rw [show (t1 ++ ([62] ++ t2)) ++ m = t1 ++ ([62] ++ (t2 ++ m)) from by simp, then_of (k1 ([62] ++ (t2 ++ m)) b ((hs.pre t2).pre [62]))]
    simp only
    rw [if_pos (prefix_pos _ _)]
    have hd2 : ([62] ++ (t2 ++ m)).drop 1 = t2 ++ m := rfl
    rw [hd2, then_of (k2 m _ hs)]
    simp; omega
  · rename_i hp1
    split at h
    · rename_i hp
      obtain ⟨r, rfl, hd⟩ := prefix_split hp
      rw [show ([43] : B).length = 1 from rfl] at hd
      rw [hd] at h
      obtain ⟨⟨l2, a2⟩, h2, h⟩ := then_ok h
      obtain ⟨t2, g2, rfl, rfl, st2, k2⟩ := gap_loc h2
      cases h
      refine ⟨t1 ++ ([43] ++ t2), by simp, by simp; omega, fun m b hs => ?_⟩
      unfold sJoin
      rw [show (t1 ++ ([43] ++ t2)) ++ m = t1 ++ ([43] ++ (t2 ++ m)) from by simp, then_of (k1 ([43] ++ (t2 ++ m)) b ((hs.pre t2).pre [43]))]
      simp only
      rw [if_neg (by simp [List.isPrefixOf]), if_pos (prefix_pos _ _)]
      have hd2 : ([43] ++ (t2 ++ m)).drop 1 = t2 ++ m := rfl
      rw [hd2, then_of (k2 m _ hs)]
      simp; omega
    · rename_i hp2
      have hdec : ∀ b : Nat, decide (b < b + t1.length) = decide (a < a + t1.length) := fun b => by
        rw [Bool.eq_iff_iff]; simp
      split at h
      · rename_i he
        cases h
        refine ⟨t1, rfl, rfl, fun m b hs => ?_⟩
        unfold sJoin
        rw [then_of (k1 m b hs)]
        simp only
        rw [← hs.one, if_neg hp1, ← hs.one, if_neg hp2, hdec, ← selEnds_same hs, if_pos he]
      · rename_i he
        cases h
        refine ⟨t1, rfl, rfl, fun m b hs => ?_⟩
        unfold sJoin
        rw [then_of (k1 m b hs)]
        simp only
        rw [← hs.one, if_neg hp1, ← hs.one, if_neg hp2, hdec, ← selEnds_same hs, if_neg he]
theorem selL_loc : ∀ (f : Nat) (ps : List PPart) (l : B) (a : Nat) (v : PSel) (l' : B) (a' : Nat), sSelL f ps l a = .ok (v, l', a') →
    ∃ t, l = t ++ l' ∧ a' = a + t.length ∧ ∀ (g : Nat) (m : B) (b : Nat), t.length < g → Same l' m → sSelL g ps (t ++ m) b = .ok (v, m, b + t.length) := by
  intro f
  induction f with
  | zero => intro ps l a v l' a' h; cases h
  | succ f ih =>
    intro ps l a v l' a' h
    rw [sSelL] at h
    obtain ⟨⟨x, l1, a1⟩, h1, h⟩ := then_ok h
    obtain ⟨t1, rfl, rfl, k1⟩ := join_loc _ _ _ _ _ h1
    cases x with
    | none =>
      cases h
      refine ⟨t1, rfl, rfl, fun g m b hg hs => ?_⟩
      cases g with
      | zero => simp at hg
      | succ g => rw [sSelL, then_of (k1 m b hs)]
    | some j =>
      simp only at h
      split at h
      · cases h
      · rename_i hn
        obtain ⟨⟨ts, l2, a2⟩, h2, h⟩ := then_ok h
        have hlt := tests_loc.2 _ _ _ _ _ h2
        obtain ⟨t2, rfl, rfl, k2⟩ := tests_loc.1 _ _ _ _ _ h2
        obtain ⟨t3, rfl, rfl, k3⟩ := ih _ _ _ _ _ _ h
        refine ⟨t1 ++ (t2 ++ t3), by simp, by simp; omega, fun g m b hg hs => ?_⟩
        cases g with
        | zero => simp at hg
        | succ g =>
          rw [sSelL, show (t1 ++ (t2 ++ t3)) ++ m = t1 ++ (t2 ++ (t3 ++ m)) from by simp, then_of (k1 _ b ((hs.pre t3).pre t2))]
          simp only
          rw [if_neg hn, then_of (k2 _ _ (hs.pre t3))]
          simp only
          rw [k3 g m _ (by simp at hg; omega) hs]
          simp; omega
theorem sel_loc : Loc sSel ∧ ∀ l a v l' a', sSel l a = .ok (v, l', a') → a < a' := by
  refine ⟨fun l a v l' a' h => ?_, fun l a v l' a' h => ?_⟩
  · unfold sSel at h
    obtain ⟨⟨ts, l1, a1⟩, h1, h⟩ := then_ok h
    obtain ⟨t1, rfl, rfl, k1⟩ := tests_loc.1 _ _ _ _ _ h1
    obtain ⟨t2, rfl, rfl, k2⟩ := selL_loc _ _ _ _ _ _ _ h
    refine ⟨t1 ++ t2, by simp, by simp; omega, fun m b hs => ?_⟩
    unfold sSel
    rw [List.append_assoc, then_of (k1 _ b (hs.pre t2))]
    simp only
    rw [k2 _ m _ (by simp; omega) hs]
    simp; omega
  · unfold sSel at h
    obtain ⟨⟨ts, l1, a1⟩, h1, h⟩ := then_ok h
    have := tests_loc.2 _ _ _ _ _ h1
    obtain ⟨t2, _, rfl, k2⟩ := selL_loc _ _ _ _ _ _ _ h
    omega
theorem selsL_loc : ∀ (f : Nat) (ss : List PSel) (l : B) (a : Nat) (v : List PSel) (l' : B) (a' : Nat), sSelsL f ss l a = .ok (v, l', a') →
    ∃ t, l = t ++ l' ∧ a' = a + t.length ∧ 0 < t.length ∧ ∀ (g : Nat) (m : B) (b : Nat), t.length < g → Same l' m → sSelsL g ss (t ++ m) b = .ok (v, m, b + t.length) := by
  intro f
  induction f with
  | zero => intro ps l a v l' a' h; cases h
  | succ f ih =>
    intro ps l a v l' a' h
    rw [sSelsL] at h
    split at h
    · cases h
    · rename_i hn
      obtain ⟨⟨x, l1, a1⟩, h1, h⟩ := then_ok h
      have hlt := sel_loc.2 _ _ _ _ _ h1
      obtain ⟨t1, rfl, rfl, k1⟩ := sel_loc.1 _ _ _ _ _ h1
      simp only at h
      split at h
      · rename_i hp
        obtain ⟨r, rfl, hd⟩ := prefix_split hp
        rw [show ([44] : B).length = 1 from rfl] at hd
        rw [hd] at h
        obtain ⟨⟨l2, a2⟩, h2, h⟩ := then_ok h
        obtain ⟨t2, g2, rfl, rfl, st2, k2⟩ := gap_loc h2
        obtain ⟨t3, rfl, rfl, p3, k3⟩ := ih _ _ _ _ _ _ h
        refine ⟨t1 ++ ([44] ++ (t2 ++ t3)), by simp, by simp; omega, by simp; omega, fun g m b hg hs => ?_⟩
        cases g with
        | zero => simp at hg
        | succ g =>
          rw [sSelsL, if_neg hn, show (t1 ++ ([44] ++ (t2 ++ t3))) ++ m = t1 ++ ([44] ++ (t2 ++ (t3 ++ m))) from by simp, then_of (k1 _ b (((hs.pre t3).pre t2).pre [44]))]
          simp only
          rw [if_pos (prefix_pos _ _)]
          have hd2 : ([44] ++ (t2 ++ (t3 ++ m))).drop 1 = t2 ++ (t3 ++ m) := rfl
          rw [hd2, then_of (k2 _ _ (hs.pre t3))]
          simp only
          rw [k3 g m _ (by simp at hg; omega) hs]
          simp; omega
      · rename_i hp
        cases h
        refine ⟨t1, rfl, rfl, by omega, fun g m b hg hs => ?_⟩
        cases g with
        | zero => simp at hg
        | succ g =>
          rw [sSelsL, if_neg hn, then_of (k1 m b hs)]
          simp only
          rw [← hs.one, if_neg hp]
theorem valL_loc : ∀ (f : Nat) (ws : List B) (l : B) (a : Nat) (v : B) (l' : B) (a' : Nat), sValL f ws l a = .ok (v, l', a') →
    ∃ t, l = t ++ l' ∧ a' = a + t.length ∧ ∀ (g : Nat) (m : B) (b : Nat), t.length < g → Same l' m → sValL g ws (t ++ m) b = .ok (v, m, b + t.length) := by
  intro f
  induction f with
  | zero => intro ps l a v l' a' h; cases h
  | succ f ih =>
    intro ws l a v l' a' h
    rw [sValL] at h
    simp only at h
    split at h
    · rename_i hw
      split at h
      · cases h
      · rename_i hws
        cases h
        refine ⟨[], rfl, rfl, fun g m b hg hs => ?_⟩
        cases g with
        | zero => simp at hg
        | succ g =>
          rw [sValL]
          simp only
          have : ([] ++ m).takeWhile isWord = [] := takeWhile_same [] hs.head (by simpa using hw)
          rw [this, if_pos rfl, if_neg hws]; rfl
    · rename_i hw
      split at h
      · cases h
      · rename_i hlen
        obtain ⟨⟨l1, a1⟩, h1, h⟩ := then_ok h
        obtain ⟨t1, g1, hl1, rfl, st1, k1⟩ := gap_loc h1
        obtain ⟨t2, rfl, rfl, k2⟩ := ih _ _ _ _ _ _ h
        have hsplit : l = l.takeWhile isWord ++ (t1 ++ (t2 ++ l')) := by
          have hp : l = l.takeWhile isWord ++ l.drop (l.takeWhile isWord).length := by
            conv => lhs; rw [← List.take_append_drop (l.takeWhile isWord).length l]
            rw [takeWhile_take]
          rw [hl1] at hp; exact hp
        obtain ⟨w, hwd⟩ : ∃ w, w = l.takeWhile isWord := ⟨_, rfl⟩
        rw [← hwd] at hsplit hw hlen h h1 k2 ⊢
        subst hsplit
        have hpos : 0 < w.length := List.length_pos_iff.2 hw
        refine ⟨w ++ (t1 ++ t2), by simp, by simp; omega, fun g m b hg hs => ?_⟩
        cases g with
        | zero => simp at hg
        | succ g =>
          rw [sValL]
          simp only
          have hsame : Same (t1 ++ (t2 ++ l')) (t1 ++ (t2 ++ m)) := (hs.pre t2).pre t1
          have e0 : (w ++ (t1 ++ t2)) ++ m = w ++ (t1 ++ (t2 ++ m)) := by simp
          have : (w ++ (t1 ++ (t2 ++ m))).takeWhile isWord = w := takeWhile_same w hsame.head hwd.symm
          rw [e0, this, if_neg hw, if_neg hlen]
          have hd : (w ++ (t1 ++ (t2 ++ m))).drop w.length = t1 ++ (t2 ++ m) := by simp
          rw [hd, then_of (k1 _ _ (hs.pre t2))]
          simp only
          rw [k2 g m _ (by simp at hg; omega) hs]
          simp; omega
theorem val_loc : Loc sVal := by
  intro l a v l' a' h
  unfold sVal at h
  obtain ⟨t, h1, h2, k⟩ := valL_loc _ _ _ _ _ _ _ h
  exact ⟨t, h1, h2, fun m b hs => by unfold sVal; exact k _ m b (by simp; omega) hs⟩
theorem strong_loc : Loc sStrong := by
  intro l a v l' a' h
  unfold sStrong at h
  split at h
  · rename_i hp
    obtain ⟨r, rfl, hd⟩ := prefix_split hp
    rw [show ([33] : B).length = 1 from rfl] at hd
    rw [hd] at h
    obtain ⟨⟨l1, a1⟩, h1, h⟩ := then_ok h
    obtain ⟨rfl, rfl, k1⟩ := must_loc h1
    obtain ⟨⟨l2, a2⟩, h2, h⟩ := then_ok h
    obtain ⟨t2, g2, rfl, rfl, st2, k2⟩ := gap_loc h2
    cases h
    refine ⟨[33] ++ (importantWord ++ t2), by simp, by simp; omega, fun m b hs => ?_⟩
    unfold sStrong
    rw [show ([33] ++ (importantWord ++ t2)) ++ m = [33] ++ (importantWord ++ (t2 ++ m)) from by simp, if_pos (prefix_pos _ _)]
    have hd2 : ([33] ++ (importantWord ++ (t2 ++ m))).drop 1 = importantWord ++ (t2 ++ m) := rfl
    rw [hd2, then_of (k1 _ _)]
    simp only
    rw [then_of (k2 _ _ hs)]
    simp; omega
  · rename_i hp
    cases h
    refine ⟨[], rfl, rfl, fun m b hs => ?_⟩
    unfold sStrong
    rw [List.nil_append, ← hs.one, if_neg hp]; rfl
theorem decl_loc : Loc sDecl ∧ ∀ l a v l' a', sDecl l a = .ok (v, l', a') → a < a' := by
  have main : ∀ l a v l' a', sDecl l a = .ok (v, l', a') → ∃ t, l = t ++ l' ∧ a' = a + t.length ∧ 0 < t.length ∧ ∀ m b, Same l' m → sDecl (t ++ m) b = .ok (v, m, b + t.length) := by
    intro l a v l' a' h
    unfold sDecl at h
    obtain ⟨⟨nm, l1, a1⟩, h1, h⟩ := then_ok h
    obtain ⟨hpos, _, hna, _, _⟩ := name_pos h1
    obtain ⟨t1, rfl, hta, k1⟩ := name_loc _ _ _ _ _ h1
    have ht1 : t1.length = nm.length := by omega
    subst hta
    obtain ⟨⟨l2, a2⟩, h2, h⟩ := then_ok h
    obtain ⟨t2, g2, rfl, rfl, st2, k2⟩ := gap_loc h2
    obtain ⟨⟨l3, a3⟩, h3, h⟩ := then_ok h
    obtain ⟨rfl, rfl, k3⟩ := must_loc h3
    obtain ⟨⟨l4, a4⟩, h4, h⟩ := then_ok h
    obtain ⟨t4, g4, rfl, rfl, st4, k4⟩ := gap_loc h4
    obtain ⟨⟨v5, l5, a5⟩, h5, h⟩ := then_ok h
    obtain ⟨t5, rfl, rfl, k5⟩ := val_loc _ _ _ _ _ h5
    obtain ⟨⟨v6, l6, a6⟩, h6, h⟩ := then_ok h
    obtain ⟨t6, rfl, rfl, k6⟩ := strong_loc _ _ _ _ _ h6
    cases h
    refine ⟨t1 ++ (t2 ++ ([58] ++ (t4 ++ (t5 ++ t6)))), by simp, by simp; omega, by simp; omega, fun m b hs => ?_⟩
    unfold sDecl
    rw [show (t1 ++ (t2 ++ ([58] ++ (t4 ++ (t5 ++ t6))))) ++ m = t1 ++ (t2 ++ ([58] ++ (t4 ++ (t5 ++ (t6 ++ m))))) from by simp]
    rw [then_of (k1 _ b (((((hs.pre t6).pre t5).pre t4).pre [58]).pre t2))]
    simp only
    rw [then_of (k2 _ _ ((((hs.pre t6).pre t5).pre t4).pre [58]))]
    simp only
    rw [then_of (k3 _ _)]
    simp only
    rw [then_of (k4 _ _ ((hs.pre t6).pre t5))]
    simp only
    rw [then_of (k5 _ _ (hs.pre t6))]
    simp only
    rw [then_of (k6 _ _ hs)]
    simp; omega
  exact ⟨fun l a v l' a' h => by obtain ⟨t, h1, h2, _, h3⟩ := main l a v l' a' h; exact ⟨t, h1, h2, h3⟩,
    fun l a v l' a' h => by obtain ⟨t, h1, h2, h3, _⟩ := main l a v l' a' h; omega⟩
theorem declsL_loc : ∀ (f : Nat) (ds : List PDecl) (l : B) (a : Nat) (v : List PDecl) (l' : B) (a' : Nat), sDeclsL f ds l a = .ok (v, l', a') →
    ∃ t, l = t ++ l' ∧ a' = a + t.length ∧ ∀ (g : Nat) (m : B) (b : Nat), t.length < g → Same l' m → sDeclsL g ds (t ++ m) b = .ok (v, m, b + t.length) := by
  intro f
  induction f with
  | zero => intro ps l a v l' a' h; cases h
  | succ f ih =>
    intro ds l a v l' a' h
    rw [sDeclsL] at h
    split at h
    · rename_i he
      cases h
      refine ⟨[], rfl, rfl, fun g m b hg hs => ?_⟩
      cases g with
      | zero => simp at hg
      | succ g => rw [sDeclsL, List.nil_append, ← hs.isEmpty, ← hs.one, if_pos he]; rfl
    · rename_i he
      split at h
      · cases h
      · rename_i hn
        obtain ⟨⟨d, l1, a1⟩, h1, h⟩ := then_ok h
        have hlt := decl_loc.2 _ _ _ _ _ h1
        obtain ⟨t1, rfl, rfl, k1⟩ := decl_loc.1 _ _ _ _ _ h1
        have he2 : ∀ m : B, ¬ ((t1 ++ m).isEmpty || ([125] : B).isPrefixOf (t1 ++ m)) = true := by
          intro m
          cases t1 with
          | nil => simp at hlt
          | cons c t => rw [one_prefix] at he ⊢; exact he
        simp only at h
        split at h
        · rename_i hp
          obtain ⟨r, rfl, hd⟩ := prefix_split hp
          rw [show ([59] : B).length = 1 from rfl] at hd
          rw [hd] at h
          obtain ⟨⟨l2, a2⟩, h2, h⟩ := then_ok h
          obtain ⟨t2, g2, rfl, rfl, st2, k2⟩ := gap_loc h2
          obtain ⟨t3, rfl, rfl, k3⟩ := ih _ _ _ _ _ _ h
          refine ⟨t1 ++ ([59] ++ (t2 ++ t3)), by simp, by simp; omega, fun g m b hg hs => ?_⟩
          cases g with
          | zero => simp at hg
          | succ g =>
            rw [sDeclsL, show (t1 ++ ([59] ++ (t2 ++ t3))) ++ m = t1 ++ ([59] ++ (t2 ++ (t3 ++ m))) from by simp, if_neg (he2 _), if_neg hn, then_of (k1 _ b (((hs.pre t3).pre t2).pre [59]))]
            simp only
            rw [if_pos (prefix_pos _ _)]
            have hd2 : ([59] ++ (t2 ++ (t3 ++ m))).drop 1 = t2 ++ (t3 ++ m) := rfl
            rw [hd2, then_of (k2 _ _ (hs.pre t3))]
            simp only
            rw [k3 g m _ (by simp at hg; omega) hs]
            simp; omega
        · rename_i hp
          cases h
          refine ⟨t1, rfl, rfl, fun g m b hg hs => ?_⟩
          cases g with
          | zero => simp at hg
          | succ g =>
            rw [sDeclsL, if_neg (he2 _), if_neg hn, then_of (k1 m b hs)]
            simp only
            rw [← hs.one, if_neg hp]
theorem decls_loc : Loc sDecls := by
  intro l a v l' a' h
  unfold sDecls at h
  obtain ⟨⟨l1, a1⟩, h1, h⟩ := then_ok h
  obtain ⟨t1, g1, rfl, rfl, st1, k1⟩ := gap_loc h1
  obtain ⟨t2, rfl, rfl, k2⟩ := declsL_loc _ _ _ _ _ _ _ h
  refine ⟨t1 ++ t2, by simp, by simp; omega, fun m b hs => ?_⟩
  unfold sDecls
  rw [List.append_assoc, then_of (k1 _ b (hs.pre t2))]
  simp only
  rw [k2 _ m _ (by simp; omega) hs]
  simp; omega
theorem rule_loc {media l : B} {a : Nat} {r : PRule} {l' : B} {a' : Nat} (h : sRule media l a = .ok (r, l', a')) :
    ∃ t, l = t ++ l' ∧ a' = a + t.length ∧ r.media = media ∧ r.lo = (a : Int) ∧ r.hi = ((a + t.length : Nat) : Int) ∧ 0 < t.length ∧
      ∀ (md m : B) (b : Nat), sRule md (t ++ m) b = .ok (⟨md, r.sels, r.decls, (b : Int), ((b + t.length : Nat) : Int)⟩, m, b + t.length) := by
  unfold sRule at h
  obtain ⟨⟨ss, l1, a1⟩, h1, h⟩ := then_ok h
  obtain ⟨t1, rfl, rfl, p1, k1⟩ := selsL_loc _ _ _ _ _ _ _ h1
  obtain ⟨⟨l2, a2⟩, h2, h⟩ := then_ok h
  obtain ⟨rfl, rfl, k2⟩ := must_loc h2
  obtain ⟨⟨ds, l3, a3⟩, h3, h⟩ := then_ok h
  obtain ⟨t3, rfl, rfl, k3⟩ := decls_loc _ _ _ _ _ h3
  obtain ⟨⟨l4, a4⟩, h4, h⟩ := then_ok h
  obtain ⟨rfl, rfl, k4⟩ := must_loc h4
  cases h
  refine ⟨t1 ++ ([123] ++ (t3 ++ [125])), by simp, by simp; omega, rfl, rfl, by simp; omega, by simp; omega, fun md m b => ?_⟩
  have hs : Same ([125] ++ l') ([125] ++ m) := Same.guard (by decide) _ _
  unfold sRule
  rw [show (t1 ++ ([123] ++ (t3 ++ [125]))) ++ m = t1 ++ ([123] ++ (t3 ++ ([125] ++ m))) from by simp]
  rw [then_of (k1 _ _ b (by simp; omega) ((hs.pre t3).pre [123]))]
  simp only
  rw [then_of (k2 _ _)]
  simp only
  rw [then_of (k3 _ _ hs)]
  simp only
  rw [then_of (k4 _ _)]
  simp; omega
theorem mediaHead_loc {l nm : B} {a : Nat} {l' : B} {a' : Nat} (h : sMediaHead l a = .ok (nm, l', a')) :
    ∃ t, l = t ++ l' ∧ a' = a + t.length ∧ nm ≠ [] ∧ ∀ (m : B) (b : Nat), sMediaHead (t ++ m) b = .ok (nm, m, b + t.length) := by
  unfold sMediaHead at h
  obtain ⟨⟨l1, a1⟩, h1, h⟩ := then_ok h
  obtain ⟨t1, g1, rfl, rfl, st1, k1⟩ := gap_loc h1
  simp only at h
  split at h
  · cases h
  · rename_i hne
    obtain ⟨⟨nm2, l2, a2⟩, h2, h⟩ := then_ok h
    obtain ⟨hpos, _⟩ := name_pos h2
    obtain ⟨t2, rfl, rfl, k2⟩ := name_loc _ _ _ _ _ h2
    obtain ⟨⟨l3, a3⟩, h3, h⟩ := then_ok h
    obtain ⟨t3, g3, rfl, rfl, st3, k3⟩ := gap_loc h3
    obtain ⟨⟨l4, a4⟩, h4, h⟩ := then_ok h
    obtain ⟨rfl, rfl, k4⟩ := must_loc h4
    cases h
    refine ⟨t1 ++ (t2 ++ (t3 ++ [123])), by simp, by simp; omega, by rintro rfl; simp at hpos, fun m b => ?_⟩
    have hs : Same ([123] ++ l4) ([123] ++ m) := Same.guard (by decide) _ _
    unfold sMediaHead
    rw [show (t1 ++ (t2 ++ (t3 ++ [123]))) ++ m = t1 ++ (t2 ++ (t3 ++ ([123] ++ m))) from by simp]
    rw [then_of (k1 _ b ((hs.pre t3).pre t2))]
    simp only
    rw [if_neg (by omega), then_of (k2 _ _ (hs.pre t3))]
    simp only
    rw [then_of (k3 _ _ hs)]
    simp only
    rw [then_of (k4 _ _)]
    simp; omega
end Go.Proofs.YtplbdlgmjehckadGreatDoor

namespace Go.Proofs.YtplbdlgmjehckadGreatDoor
set_option linter.unusedVariables false
set_option linter.unusedSimpArgs false
def headCh (c : UInt8) : Bool := isLow c || decide (c.toNat = 42) || decide (c.toNat = 46) || decide (c.toNat = 35) || decide (c.toNat = 58) || decide (c.toNat = 91)
theorem prefix_head {x c : UInt8} {w t : B} (h : (x :: w).isPrefixOf (c :: t) = true) : x = c := by
  simp [List.isPrefixOf] at h; exact h.1
theorem nameLen_pos {l : B} (h : nameLen l ≠ 0) : ∃ c t, l = c :: t ∧ isLow c = true := by
  cases l with
  | nil => exact absurd rfl h
  | cons c t =>
    refine ⟨c, t, rfl, ?_⟩
    rw [nameLen_eq] at h
    split at h
    · assumption
    · exact absurd rfl h
theorem test_head {l : B} {a : Nat} {v : PTest} {l' : B} {a' : Nat} (h : sTest l a = .ok (some v, l', a')) : ∃ c t, l = c :: t ∧ headCh c = true := by
  unfold sTest at h
  cases l with
  | nil => simp [List.isPrefixOf, firstWord] at h
  | cons c t =>
    refine ⟨c, t, rfl, ?_⟩
    split at h
    · rename_i hp; have := prefix_head hp; subst this; decide
    · split at h
      · rename_i hp; have := prefix_head hp; subst this; decide
      · split at h
        · rename_i hp; have := prefix_head hp; subst this; decide
        · split at h
          · rename_i hp; have := prefix_head hp; subst this; decide
          · cases h
theorem tests_head {l : B} {a : Nat} {v : List PTest} {l' : B} {a' : Nat} (h : sTests l a = .ok (v, l', a')) : ∃ c t, l = c :: t ∧ headCh c = true := by
  unfold sTests at h
  obtain ⟨⟨ts, q, l1, a1⟩, h1, h⟩ := then_ok h
  unfold sHead at h1
  split at h1
  · rename_i hp
    cases l with
    | nil => simp [List.isPrefixOf] at hp
    | cons c t => have := prefix_head hp; subst this; exact ⟨_, _, rfl, by decide⟩
  · split at h1
    · cases h1
      simp only at h
      rw [sTestsL] at h
      obtain ⟨⟨x, l2, a2⟩, h2, h⟩ := then_ok h
      cases x with
      | none => simp at h
      | some x => exact test_head h2
    · rename_i hn
      obtain ⟨c, t, rfl, hc⟩ := nameLen_pos hn
      exact ⟨c, t, rfl, by simp [headCh, hc]⟩
theorem rule_head {media l : B} {a : Nat} {r : PRule} {l' : B} {a' : Nat} (h : sRule media l a = .ok (r, l', a')) : ∃ c t, l = c :: t ∧ headCh c = true := by
  unfold sRule at h
  obtain ⟨⟨ss, l1, a1⟩, h1, h⟩ := then_ok h
  rw [sSelsL] at h1
  split at h1
  · cases h1
  · obtain ⟨⟨x, l2, a2⟩, h2, h1⟩ := then_ok h1
    unfold sSel at h2
    obtain ⟨⟨ts, l3, a3⟩, h3, h2⟩ := then_ok h2
    exact tests_head h3
theorem headCh_ne {c : UInt8} (h : headCh c = true) : c.toNat ≠ 125 ∧ c.toNat ≠ 64 ∧ c.toNat ≠ 32 ∧ c.toNat ≠ 10 ∧ c.toNat ≠ 47 := by
  simp [headCh, isLow] at h; omega
theorem stops_cons {c : UInt8} (t : B) (h : c.toNat ≠ 32 ∧ c.toNat ≠ 10 ∧ c.toNat ≠ 47) : stops (c :: t) = true := by
  have h1 : ¬ c = 32 := fun e => h.1 (by rw [e]; rfl)
  have h2 : ¬ c = 10 := fun e => h.2.1 (by rw [e]; rfl)
  have h3 : ¬ c = 47 := fun e => h.2.2 (by rw [e]; rfl)
  unfold stops
  rw [one_prefix, one_prefix]
  have : gapBegin.isPrefixOf (c :: t) = false := by
    rw [← Bool.not_eq_true]; intro hp; exact h3 (prefix_head hp).symm
  rw [this]; simp [h1, h2]
structure RuleT (t : B) (ss : List PSel) (ds : List PDecl) : Prop where
  read : ∀ (md m : B) (b : Nat), sRule md (t ++ m) b = .ok (⟨md, ss, ds, (b : Int), ((b + t.length : Nat) : Int)⟩, m, b + t.length)
  head : ∃ c u, t = c :: u ∧ headCh c = true
structure HeadT (nm h : B) : Prop where
  read : ∀ (m : B) (b : Nat), sMediaHead (h ++ m) b = .ok (nm, m, b + h.length)
  name : nm ≠ []
inductive In1 where
  | gap (g : B)
  | rule (t : B) (ss : List PSel) (ds : List PDecl)
inductive It where
  | plain (x : In1)
  | media (nm h : B) (xs : List In1)
def In1.text : In1 → B
  | .gap g => g
  | .rule t _ _ => t
def In1.wf : In1 → Prop
  | .gap g => IsGap g
  | .rule t ss ds => RuleT t ss ds
def textIn : List In1 → B
  | [] => []
  | x :: xs => x.text ++ textIn xs
def It.text : It → B
  | .plain x => x.text
  | .media _ h xs => mediaWord ++ (h ++ (textIn xs ++ [125]))
def It.wf : It → Prop
  | .plain x => x.wf
  | .media nm h xs => HeadT nm h ∧ ∀ x ∈ xs, x.wf
def textIt : List It → B
  | [] => []
  | x :: xs => x.text ++ textIt xs
def rulesIn (md : B) : Nat → List In1 → List PRule
  | _, [] => []
  | b, .gap g :: xs => rulesIn md (b + g.length) xs
  | b, .rule t ss ds :: xs => ⟨md, ss, ds, (b : Int), ((b + t.length : Nat) : Int)⟩ :: rulesIn md (b + t.length) xs
def rulesIt : Nat → List It → List PRule
  | _, [] => []
  | b, .plain x :: xs => rulesIn [] b [x] ++ rulesIt (b + x.text.length) xs
  | b, .media nm h ys :: xs => rulesIn nm (b + 6 + h.length) ys ++ rulesIt (b + (It.media nm h ys).text.length) xs
theorem textIt_app (xs ys : List It) : textIt (xs ++ ys) = textIt xs ++ textIt ys := by
  induction xs with
  | nil => rfl
  | cons x xs ih => simp [textIt, ih]
theorem rulesIt_app (xs ys : List It) : ∀ b, rulesIt b (xs ++ ys) = rulesIt b xs ++ rulesIt (b + (textIt xs).length) ys := by
  induction xs with
  | nil => intro b; rfl
  | cons x xs ih =>
    intro b
    cases x with
    | plain x => simp only [List.cons_append, rulesIt, ih, textIt, It.text, List.length_append, List.append_assoc, Nat.add_assoc]
    | media nm h zs => simp only [List.cons_append, rulesIt, ih, textIt, List.length_append, List.append_assoc, Nat.add_assoc]
def endsHere (m : B) : Bool := m.isEmpty || ([125] : B).isPrefixOf m
theorem ends_stops {m : B} (h : endsHere m = true) : stops m = true := by
  cases m with
  | nil => rfl
  | cons c t =>
    have : c = 125 := by
      unfold endsHere at h
      rw [one_prefix] at h
      simpa using h
    subst this; exact stops_cons t (by decide)
theorem rule_ready {t : B} {ss : List PSel} {ds : List PDecl} (h : RuleT t ss ds) (m : B) : stops (t ++ m) = true ∧ ((t ++ m).isEmpty || ([125] : B).isPrefixOf (t ++ m)) = false ∧ mediaWord.isPrefixOf (t ++ m) = false := by
  obtain ⟨c, u, rfl, hc⟩ := h.head
  obtain ⟨h1, h2, h3, h4, h5⟩ := headCh_ne hc
  refine ⟨stops_cons _ ⟨h3, h4, h5⟩, ?_, ?_⟩
  · rw [one_prefix]
    have : ¬ c = 125 := fun e => h1 (by rw [e]; rfl)
    simp [this]
  · rw [← Bool.not_eq_true]; intro hp
    exact h2 (by rw [← prefix_head hp]; rfl)
def rulesFrom (g : Nat) (md : B) (rs : List PRule) (l : B) (b : Nat) : Ans (List PRule × B × Nat) := (sGap l b).then fun x => sRulesL g md rs x.1 x.2
theorem rulesFrom_end {g : Nat} {md : B} {rs : List PRule} {m : B} {b : Nat} (hg : 0 < g) (he : endsHere m = true) : rulesFrom g md rs m b = .ok (rs, m, b) := by
  cases g with
  | zero => omega
  | succ g =>
    unfold rulesFrom
    rw [gap_stop b (ends_stops he), Ans.ok_then, sRulesL]
    simp only
    exact if_pos he
theorem rulesFrom_gap {g : Nat} {md : B} {rs : List PRule} {x m : B} {b : Nat} (hx : IsGap x) : rulesFrom g md rs (x ++ m) b = rulesFrom g md rs m (b + x.length) := by
  unfold rulesFrom; rw [gap_of hx]
theorem rulesFrom_rule {g : Nat} {md : B} {rs : List PRule} {t m : B} {ss : List PSel} {ds : List PDecl} {b : Nat} (h : RuleT t ss ds) (hr : rs.length < 60) :
    rulesFrom (g + 1) md rs (t ++ m) b = rulesFrom g md (rs ++ [⟨md, ss, ds, (b : Int), ((b + t.length : Nat) : Int)⟩]) m (b + t.length) := by
  obtain ⟨h1, h2, h3⟩ := rule_ready h m
  conv => lhs; unfold rulesFrom
  rw [gap_stop b h1, Ans.ok_then, sRulesL, h2, if_neg (by simp), h3, if_neg (by simp), if_neg (by omega), then_of (h.read md m b)]
  rfl
theorem in_read : ∀ (xs : List In1), (∀ x ∈ xs, x.wf) → ∀ (g : Nat) (md : B) (rs : List PRule) (m : B) (b : Nat), (textIn xs).length < g → rs.length + (rulesIn md b xs).length ≤ 60 → endsHere m = true →
    rulesFrom g md rs (textIn xs ++ m) b = .ok (rs ++ rulesIn md b xs, m, b + (textIn xs).length)
  | [], _, g, md, rs, m, b, hg, hr, he => by
    rw [show textIn [] ++ m = m from rfl, rulesFrom_end (by omega) he]; simp [rulesIn, textIn]
  | .gap x :: xs, hw, g, md, rs, m, b, hg, hr, he => by
    have hx : IsGap x := hw (.gap x) (by simp)
    simp only [textIn, In1.text, List.append_assoc, List.length_append, rulesIn] at hg hr ⊢
    rw [rulesFrom_gap hx, in_read xs (fun y hy => hw y (by simp [hy])) g md rs m (b + x.length) (by omega) hr he]
    simp [Nat.add_assoc]
  | .rule t ss ds :: xs, hw, g, md, rs, m, b, hg, hr, he => by
    have hx : RuleT t ss ds := hw (.rule t ss ds) (by simp)
    have hp : 0 < t.length := by obtain ⟨c, u, rfl, _⟩ := hx.head; simp
    simp only [textIn, In1.text, List.append_assoc, List.length_append, rulesIn, List.length_cons] at hg hr ⊢
    cases g with
    | zero => omega
    | succ g =>
      rw [rulesFrom_rule hx (by omega), in_read xs (fun y hy => hw y (by simp [hy])) g md _ m (b + t.length) (by omega) (by simp; omega) he]
      simp [Nat.add_assoc]
theorem it_read : ∀ (xs : List It), (∀ x ∈ xs, x.wf) → ∀ (g : Nat) (rs : List PRule) (m : B) (b : Nat), (textIt xs).length < g → rs.length + (rulesIt b xs).length ≤ 60 → endsHere m = true →
    rulesFrom g [] rs (textIt xs ++ m) b = .ok (rs ++ rulesIt b xs, m, b + (textIt xs).length)
  | [], _, g, rs, m, b, hg, hr, he => by
    rw [show textIt [] ++ m = m from rfl, rulesFrom_end (by omega) he]; simp [rulesIt, textIt]
  | .plain (.gap x) :: xs, hw, g, rs, m, b, hg, hr, he => by
    have hx : IsGap x := hw (.plain (.gap x)) (by simp)
    simp only [textIt, It.text, In1.text, List.append_assoc, List.length_append, rulesIt, rulesIn, List.nil_append] at hg hr ⊢
    rw [rulesFrom_gap hx, it_read xs (fun y hy => hw y (by simp [hy])) g rs m (b + x.length) (by omega) hr he]
    simp [Nat.add_assoc]
  | .plain (.rule t ss ds) :: xs, hw, g, rs, m, b, hg, hr, he => by
    have hx : RuleT t ss ds := hw (.plain (.rule t ss ds)) (by simp)
    have hp : 0 < t.length := by obtain ⟨c, u, rfl, _⟩ := hx.head; simp
    simp only [textIt, It.text, In1.text, List.append_assoc, List.length_append, rulesIt, rulesIn, List.length_cons, List.length_nil, List.cons_append, List.nil_append] at hg hr ⊢
    cases g with
    | zero => omega
    | succ g =>
      rw [rulesFrom_rule hx (by omega), it_read xs (fun y hy => hw y (by simp [hy])) g _ m (b + t.length) (by omega) (by simp; omega) he]
      simp [Nat.add_assoc]
  | .media nm h ys :: xs, hw, g, rs, m, b, hg, hr, he => by
    obtain ⟨hh, hys⟩ : HeadT nm h ∧ ∀ x ∈ ys, x.wf := hw (.media nm h ys) (by simp)
    simp only [textIt, It.text, List.append_assoc, List.length_append, rulesIt] at hg hr ⊢
    have h6 : mediaWord.length = 6 := rfl
    cases g with
    | zero => omega
    | succ g =>
      obtain ⟨x, hxd⟩ : ∃ x, x = textIt xs ++ m := ⟨_, rfl⟩
      rw [← hxd]
      have hin := in_read ys hys g nm rs ([125] ++ x) (b + 6 + h.length) (by omega) (by omega) rfl
      unfold rulesFrom at hin
      obtain ⟨⟨l2, a2⟩, g1, g2⟩ := then_ok hin
      simp only at g2
      have hst : stops (mediaWord ++ (h ++ (textIn ys ++ ([125] ++ x)))) = true := stops_cons (c := 64) _ (by decide)
      have ht := it_read xs (fun y hy => hw y (by simp [hy])) g (rs ++ rulesIn nm (b + 6 + h.length) ys) m (b + 6 + h.length + (textIn ys).length + 1) (by omega)
        (by simp only [List.length_append, List.length_cons, List.length_nil] at hr ⊢; rw [show b + 6 + h.length + (textIn ys).length + 1 = b + (mediaWord.length + (h.length + ((textIn ys).length + (0 + 1)))) from by omega]; omega) he
      rw [← hxd] at ht
      unfold rulesFrom at ht
      unfold rulesFrom
      rw [gap_stop b hst, Ans.ok_then, sRulesL]
      simp only
      rw [if_neg (by simp [mediaWord, List.isPrefixOf]), if_pos (by simp [prefix_pos])]
      have hd : (mediaWord ++ (h ++ (textIn ys ++ ([125] ++ x)))).drop 6 = h ++ (textIn ys ++ ([125] ++ x)) := rfl
      rw [hd, then_of (hh.read _ _)]
      simp only
      rw [then_of g1]
      simp only
      rw [then_of g2]
      simp only
      have hmust : pMust [125] ([125] ++ x) (b + 6 + h.length + (textIn ys).length) = .ok (x, b + 6 + h.length + (textIn ys).length + 1) := by
        unfold pMust; rw [if_pos (prefix_pos _ _)]; rfl
      rw [then_of hmust]
      simp only
      rw [ht]
      simp only [List.length_append, List.length_cons, List.length_nil, h6, List.append_assoc]
      rw [show b + 6 + h.length + (textIn ys).length + 1 = b + (6 + (h.length + ((textIn ys).length + (0 + 1)))) from by omega]
      congr 3; omega
theorem in_inv : ∀ (f : Nat) (md : B) (rs : List PRule) (l : B) (a : Nat) (rs' : List PRule) (l' : B) (a' : Nat), md ≠ [] → rs.length ≤ 60 → sRulesL f md rs l a = .ok (rs', l', a') →
    ∃ xs : List In1, (∀ x ∈ xs, x.wf) ∧ l = textIn xs ++ l' ∧ a' = a + (textIn xs).length ∧ rs' = rs ++ rulesIn md a xs ∧ endsHere l' = true ∧ rs'.length ≤ 60 := by
  intro f
  induction f with
  | zero => intro md rs l a rs' l' a' _ _ h; cases h
  | succ f ih =>
    intro md rs l a rs' l' a' hmd hr h
    rw [sRulesL] at h
    split at h
    · rename_i he
      cases h
      exact ⟨[], by simp, rfl, rfl, by simp [rulesIn], he, hr⟩
    · rename_i he
      have : md.isEmpty = false := by cases md <;> simp_all
      rw [this, Bool.false_and, if_neg (by simp)] at h
      split at h
      · cases h
      · rename_i hn
        obtain ⟨⟨r, l1, a1⟩, h1, h⟩ := then_ok h
        have hhd := rule_head h1
        obtain ⟨t, rfl, rfl, e1, e2, e3, hp, k⟩ := rule_loc h1
        obtain ⟨⟨l2, a2⟩, h2, h⟩ := then_ok h
        obtain ⟨t2, g2, rfl, rfl, st2, k2⟩ := gap_loc h2
        obtain ⟨xs, hw, rfl, rfl, rfl, hend, hlen⟩ := ih md _ _ _ _ _ _ hmd (by simp; omega) h
        have hrt : RuleT t r.sels r.decls := ⟨k, by
          obtain ⟨c, u, hcu, hc⟩ := hhd
          cases t with
          | nil => simp at hp
          | cons x t => simp at hcu; exact ⟨x, t, rfl, by rw [hcu.1]; exact hc⟩⟩
        refine ⟨.rule t r.sels r.decls :: .gap t2 :: xs, ?_, by simp [textIn, In1.text], by simp [textIn, In1.text]; omega, ?_, hend, hlen⟩
        · intro x hx
          simp only [List.mem_cons] at hx
          rcases hx with rfl | rfl | hx
          · exact hrt
          · exact g2
          · exact hw x hx
        · simp only [rulesIn]
          obtain ⟨m, s, d, lo, hi⟩ := r
          simp only at e1 e2 e3
          subst e1 e2 e3
          simp
theorem it_inv : ∀ (f : Nat) (rs : List PRule) (l : B) (a : Nat) (rs' : List PRule) (l' : B) (a' : Nat), rs.length ≤ 60 → sRulesL f [] rs l a = .ok (rs', l', a') →
    ∃ xs : List It, (∀ x ∈ xs, x.wf) ∧ l = textIt xs ++ l' ∧ a' = a + (textIt xs).length ∧ rs' = rs ++ rulesIt a xs ∧ endsHere l' = true ∧ rs'.length ≤ 60 := by
  intro f
  induction f with
  | zero => intro rs l a rs' l' a' _ h; cases h
  | succ f ih =>
    intro rs l a rs' l' a' hr h
    rw [sRulesL] at h
    split at h
    · rename_i he
      cases h
      exact ⟨[], by simp, rfl, rfl, by simp [rulesIt], he, hr⟩
    · rename_i he
      split at h
      · rename_i hm
        simp only [List.isEmpty_nil, Bool.true_and] at hm
        obtain ⟨r, rfl, hd⟩ := prefix_split hm
        rw [show mediaWord.length = 6 from rfl] at hd
        rw [hd] at h
        obtain ⟨⟨nm, l1, a1⟩, h1, h⟩ := then_ok h
        obtain ⟨t1, rfl, rfl, hnm, k1⟩ := mediaHead_loc h1
        obtain ⟨⟨l2, a2⟩, h2, h⟩ := then_ok h
        obtain ⟨t2, g2, rfl, rfl, st2, k2⟩ := gap_loc h2
        obtain ⟨⟨rs3, l3, a3⟩, h3, h⟩ := then_ok h
        obtain ⟨ys, hwy, rfl, rfl, rfl, hend3, hlen3⟩ := in_inv _ _ _ _ _ _ _ _ hnm hr h3
        obtain ⟨⟨l4, a4⟩, h4, h⟩ := then_ok h
        obtain ⟨rfl, rfl, k4⟩ := must_loc h4
        obtain ⟨⟨l5, a5⟩, h5, h⟩ := then_ok h
        obtain ⟨t5, g5, rfl, rfl, st5, k5⟩ := gap_loc h5
        obtain ⟨xs, hw, rfl, rfl, rfl, hend, hlen⟩ := ih _ _ _ _ _ _ hlen3 h
        refine ⟨.media nm t1 (.gap t2 :: ys) :: .plain (.gap t5) :: xs, ?_, by simp [textIt, It.text, textIn, In1.text], ?_, ?_, hend, hlen⟩
        · intro x hx
          simp only [List.mem_cons] at hx
          rcases hx with rfl | rfl | hx
          · refine ⟨⟨k1, hnm⟩, fun y hy => ?_⟩
            simp only [List.mem_cons] at hy
            rcases hy with rfl | hy
            · exact g2
            · exact hwy y hy
          · exact g5
          · exact hw x hx
        · have h6 : mediaWord.length = 6 := rfl
          simp [textIt, It.text, textIn, In1.text, h6]; omega
        · have h6 : mediaWord.length = 6 := rfl
          simp only [rulesIt, rulesIn, In1.text, It.text, textIn, List.length_append, List.length_cons, List.length_nil, h6, List.nil_append, List.append_assoc]
          rw [show a + (6 + (t1.length + (t2.length + ((textIn ys).length + (0 + 1))))) + t5.length = a + 6 + t1.length + t2.length + (textIn ys).length + (0 + 1) + t5.length from by omega]
      · rename_i hm
        split at h
        · cases h
        · rename_i hn
          obtain ⟨⟨r, l1, a1⟩, h1, h⟩ := then_ok h
          have hhd := rule_head h1
          obtain ⟨t, rfl, rfl, e1, e2, e3, hp, k⟩ := rule_loc h1
          obtain ⟨⟨l2, a2⟩, h2, h⟩ := then_ok h
          obtain ⟨t2, g2, rfl, rfl, st2, k2⟩ := gap_loc h2
          obtain ⟨xs, hw, rfl, rfl, rfl, hend, hlen⟩ := ih _ _ _ _ _ _ (by simp; omega) h
          have hrt : RuleT t r.sels r.decls := ⟨k, by
            obtain ⟨c, u, hcu, hc⟩ := hhd
            cases t with
            | nil => simp at hp
            | cons x t => simp at hcu; exact ⟨x, t, rfl, by rw [hcu.1]; exact hc⟩⟩
          refine ⟨.plain (.rule t r.sels r.decls) :: .plain (.gap t2) :: xs, ?_, by simp [textIt, It.text, In1.text], by simp [textIt, It.text, In1.text]; omega, ?_, hend, hlen⟩
          · intro x hx
            simp only [List.mem_cons] at hx
            rcases hx with rfl | rfl | hx
            · exact hrt
            · exact g2
            · exact hw x hx
          · obtain ⟨m, s, d, lo, hi⟩ := r
            simp only at e1 e2 e3
            subst e1 e2 e3
            simp [rulesIt, rulesIn, In1.text]
theorem parse_read {xs : List It} (hw : ∀ x ∈ xs, x.wf) (hl : (textIt xs).length ≤ 4000) (hr : (rulesIt 0 xs).length ≤ 60) : sParse (textIt xs) = .ok (rulesIt 0 xs) := by
  have h := it_read xs hw ((textIt xs).length + 1) [] [] 0 (by omega) (by simpa using hr) rfl
  rw [List.append_nil] at h
  unfold rulesFrom at h
  obtain ⟨⟨l2, a2⟩, g1, g2⟩ := then_ok h
  unfold sParse
  rw [if_neg (by omega), then_of g1]
  simp only at g2 ⊢
  rw [then_of g2]
  simp
theorem parse_inv {s : B} {rs : List PRule} (h : sParse s = .ok rs) : s.length ≤ 4000 ∧ rs.length ≤ 60 ∧ ∃ xs : List It, (∀ x ∈ xs, x.wf) ∧ s = textIt xs ∧ rs = rulesIt 0 xs := by
  unfold sParse at h
  split at h
  · cases h
  · rename_i hn
    obtain ⟨⟨l1, a1⟩, h1, h⟩ := then_ok h
    obtain ⟨t1, g1, rfl, rfl, st1, k1⟩ := gap_loc h1
    obtain ⟨⟨rs2, l2, a2⟩, h2, h⟩ := then_ok h
    obtain ⟨xs, hw, rfl, rfl, rfl, hend, hlen⟩ := it_inv _ _ _ _ _ _ _ (by simp) h2
    simp only at h
    split at h
    · rename_i he
      cases h
      refine ⟨by omega, hlen, .plain (.gap t1) :: xs, ?_, by rw [he]; simp [textIt, It.text, In1.text], by simp [rulesIt, rulesIn, In1.text]⟩
      intro x hx
      simp only [List.mem_cons] at hx
      rcases hx with rfl | hx
      · exact g1
      · exact hw x hx
    · cases h
end Go.Proofs.YtplbdlgmjehckadGreatDoor

