/-
  Plain Lean, no program: selectors, declarations and rules hang on what is read alone ('Loc').
-/
import Derived.Test.YtplbdlgmjehckabShLoc
namespace Go.Proofs.Ytplbdlgmjehckab
set_option linter.unusedVariables false
set_option linter.unusedSimpArgs false

theorem name_pos {l l' v : B} {a a' : Nat} (h : sName l a = .ok (v, l', a')) : 0 < v.length ∧ l = v ++ l' ∧ a' = a + v.length ∧ v.length ≤ 20 ∧ nameLen l = v.length := by
  unfold sName at h
  split at h
  · cases h
  · rename_i hn
    cases h
    have hle := nameLen_le l
    have : (l.take (nameLen l)).length = nameLen l := by simp; omega
    exact ⟨by omega, (List.take_append_drop _ _).symm, by omega, by omega, this.symm⟩

theorem attrTest_loc : Loc sAttrTest := by
  intro l a v l' a' h
  unfold sAttrTest at h
  obtain ⟨⟨nm, l1, a1⟩, h1, h⟩ := then_ok h
  obtain ⟨t1, rfl, rfl, k1⟩ := name_loc _ _ _ _ _ h1
  simp only at h
  split at h
  · cases h
  · rename_i hns
    split at h
    · rename_i hp
      obtain ⟨r, rfl, hd⟩ := prefix_split hp
      rw [show ([61] : B).length = 1 from rfl] at hd
      rw [hd] at h
      obtain ⟨⟨v2, l2, a2⟩, h2, h⟩ := then_ok h
      obtain ⟨t2, rfl, rfl, k2⟩ := name_loc _ _ _ _ _ h2
      obtain ⟨⟨l3, a3⟩, h3, h⟩ := then_ok h
      obtain ⟨rfl, rfl, k3⟩ := must_loc h3
      cases h
      refine ⟨t1 ++ ([61] ++ (t2 ++ [93])), by simp, by simp; omega, fun m b hs => ?_⟩
      unfold sAttrTest
      have e1 := k1 ([61] ++ (t2 ++ ([93] ++ m))) b (((hs.pre [93]).pre t2).pre [61])
      rw [show (t1 ++ ([61] ++ (t2 ++ [93]))) ++ m = t1 ++ ([61] ++ (t2 ++ ([93] ++ m))) from by simp]
      rw [then_of e1]
      simp only
      rw [if_neg hns, if_pos (prefix_pos _ _)]
      have e2 := k2 ([93] ++ m) (b + t1.length + 1) (hs.pre [93])
      have hd2 : ([61] ++ (t2 ++ ([93] ++ m))).drop 1 = t2 ++ ([93] ++ m) := rfl
      rw [hd2, then_of e2]
      simp only
      rw [then_of (k3 m _)]
      simp; omega
    · rename_i hp
      obtain ⟨⟨l3, a3⟩, h3, h⟩ := then_ok h
      obtain ⟨rfl, rfl, k3⟩ := must_loc h3
      cases h
      refine ⟨t1 ++ [93], by simp, by simp; omega, fun m b hs => ?_⟩
      unfold sAttrTest
      have e1 := k1 ([93] ++ m) b (hs.pre [93])
      rw [show (t1 ++ [93]) ++ m = t1 ++ ([93] ++ m) from by simp, then_of e1]
      simp only
      rw [if_neg hns, if_neg (by simp [List.isPrefixOf]), then_of (k3 m _)]
      simp; omega

/-- a test: of which there is one, something is read -/
theorem test_loc {l : B} {a : Nat} {v : Option PTest} {l' : B} {a' : Nat} (h : sTest l a = .ok (v, l', a')) :
    ∃ t, l = t ++ l' ∧ a' = a + t.length ∧ (v ≠ none → 0 < t.length) ∧ (v = none → t = []) ∧ ∀ m b, Same l' m → sTest (t ++ m) b = .ok (v, m, b + t.length) := by
  unfold sTest at h
  split at h
  · rename_i hp
    obtain ⟨r, rfl, hd⟩ := prefix_split hp
    rw [show ([46] : B).length = 1 from rfl] at hd
    rw [hd] at h
    obtain ⟨⟨nm, l1, a1⟩, h1, h⟩ := then_ok h
    obtain ⟨t1, rfl, rfl, k1⟩ := name_loc _ _ _ _ _ h1
    cases h
    refine ⟨[46] ++ t1, by simp, by simp; omega, by simp, by simp, fun m b hs => ?_⟩
    unfold sTest
    rw [List.append_assoc, if_pos (prefix_pos _ _)]
    have hd2 : ([46] ++ (t1 ++ m)).drop 1 = t1 ++ m := rfl
    rw [hd2, then_of (k1 m _ hs)]
    simp; omega
  · rename_i hp1
    split at h
    · rename_i hp
      obtain ⟨r, rfl, hd⟩ := prefix_split hp
      rw [show ([35] : B).length = 1 from rfl] at hd
      rw [hd] at h
      obtain ⟨⟨nm, l1, a1⟩, h1, h⟩ := then_ok h
      obtain ⟨t1, rfl, rfl, k1⟩ := name_loc _ _ _ _ _ h1
      cases h
      refine ⟨[35] ++ t1, by simp, by simp; omega, by simp, by simp, fun m b hs => ?_⟩
      unfold sTest
      rw [List.append_assoc, if_neg (by simp [List.isPrefixOf]), if_pos (prefix_pos _ _)]
      have hd2 : ([35] ++ (t1 ++ m)).drop 1 = t1 ++ m := rfl
      rw [hd2, then_of (k1 m _ hs)]
      simp; omega
    · rename_i hp2
      split at h
      · rename_i hp
        obtain ⟨r, rfl, hd⟩ := prefix_split hp
        cases h
        refine ⟨firstWord, by simp [firstWord], by simp [firstWord], by simp [firstWord], by simp, fun m b hs => ?_⟩
        unfold sTest
        rw [if_neg (by simp [firstWord, List.isPrefixOf]), if_neg (by simp [firstWord, List.isPrefixOf]), if_pos (prefix_pos _ _)]
        simp [firstWord]
      · rename_i hp3
        split at h
        · rename_i hp
          obtain ⟨r, rfl, hd⟩ := prefix_split hp
          rw [show ([91] : B).length = 1 from rfl] at hd
          rw [hd] at h
          obtain ⟨⟨nm, l1, a1⟩, h1, h⟩ := then_ok h
          obtain ⟨t1, rfl, rfl, k1⟩ := attrTest_loc _ _ _ _ _ h1
          cases h
          refine ⟨[91] ++ t1, by simp, by simp; omega, by simp, by simp, fun m b hs => ?_⟩
          unfold sTest
          rw [List.append_assoc, if_neg (by simp [List.isPrefixOf]), if_neg (by simp [List.isPrefixOf]), if_neg (by simp [firstWord, List.isPrefixOf]), if_pos (prefix_pos _ _)]
          have hd2 : ([91] ++ (t1 ++ m)).drop 1 = t1 ++ m := rfl
          rw [hd2, then_of (k1 m _ hs)]
          simp; omega
        · rename_i hp4
          cases h
          refine ⟨[], rfl, rfl, by simp, by simp, fun m b hs => ?_⟩
          unfold sTest
          rw [List.nil_append, ← hs.one, if_neg hp1, ← hs.one, if_neg hp2, ← hs.word _ free_first, if_neg hp3, ← hs.one, if_neg hp4]
          rfl

theorem testsL_loc : ∀ (f : Nat) (ts : List PTest) (q : Bool) (l : B) (a : Nat) (v : List PTest) (l' : B) (a' : Nat), sTestsL f ts q l a = .ok (v, l', a') →
    ∃ t, l = t ++ l' ∧ a' = a + t.length ∧ (q = false → 0 < t.length) ∧ ∀ (g : Nat) (m : B) (b : Nat), t.length < g → Same l' m → sTestsL g ts q (t ++ m) b = .ok (v, m, b + t.length) := by
  intro f
  induction f with
  | zero => intro ts q l a v l' a' h; cases h
  | succ f ih =>
    intro ts q l a v l' a' h
    rw [sTestsL] at h
    obtain ⟨⟨x, l1, a1⟩, h1, h⟩ := then_ok h
    obtain ⟨t1, rfl, rfl, p1, z1, k1⟩ := test_loc h1
    cases x with
    | none =>
      obtain rfl := z1 rfl
      simp only at h
      split at h
      · rename_i hq
        cases h
        refine ⟨[], rfl, rfl, by simp [hq], fun g m b hg hs => ?_⟩
        cases g with
        | zero => simp at hg
        | succ g =>
          rw [sTestsL]
          rw [then_of (k1 m b hs)]
          simp only
          rw [if_pos hq]; rfl
      · cases h
    | some x =>
      simp only at h
      split at h
      · cases h
      · rename_i hn
        have hpos := p1 (by simp)
        obtain ⟨t2, rfl, rfl, p2, k2⟩ := ih _ _ _ _ _ _ _ h
        refine ⟨t1 ++ t2, by simp, by simp; omega, fun _ => by simp; omega, fun g m b hg hs => ?_⟩
        cases g with
        | zero => simp at hg
        | succ g =>
          rw [sTestsL, List.append_assoc, then_of (k1 (t2 ++ m) b (hs.pre t2))]
          simp only
          rw [if_neg hn, k2 g m _ (by simp at hg; omega) hs]
          simp; omega

theorem tests_loc : Loc sTests ∧ ∀ l a v l' a', sTests l a = .ok (v, l', a') → a < a' := by
  have main : ∀ l a v l' a', sTests l a = .ok (v, l', a') → ∃ t, l = t ++ l' ∧ a' = a + t.length ∧ 0 < t.length ∧ ∀ m b, Same l' m → sTests (t ++ m) b = .ok (v, m, b + t.length) := by
    intro l a v l' a' h
    unfold sTests at h
    obtain ⟨⟨ts, q, l1, a1⟩, h1, h⟩ := then_ok h
    obtain ⟨t2, hl1, rfl, p2, k2⟩ := testsL_loc _ _ _ _ _ _ _ _ h
    unfold sHead at h1
    split at h1
    · rename_i hp
      obtain ⟨r, rfl, hd⟩ := prefix_split hp
      rw [show ([42] : B).length = 1 from rfl] at hd
      rw [hd] at h1
      cases h1
      subst hl1
      refine ⟨[42] ++ t2, by simp, by simp; omega, by simp, fun m b hs => ?_⟩
      unfold sTests sHead
      rw [List.append_assoc, if_pos (prefix_pos _ _)]
      have hd2 : ([42] ++ (t2 ++ m)).drop 1 = t2 ++ m := rfl
      rw [hd2, Ans.ok_then]
      simp only
      rw [k2 _ m _ (by simp; omega) hs]
      simp; omega
    · rename_i hp
      split at h1
      · rename_i hn0
        cases h1
        subst hl1
        have hpos := p2 rfl
        refine ⟨t2, rfl, rfl, hpos, fun m b hs => ?_⟩
        have hsm : (t2 ++ m).head? = (t2 ++ l').head? := by
          cases t2 with
          | nil => simp at hpos
          | cons c t => rfl
        unfold sTests sHead
        rw [one_prefix, hsm, ← one_prefix, if_neg hp]
        have : nameLen (t2 ++ m) = 0 := by
          cases t2 with
          | nil => simp at hpos
          | cons c t =>
            rw [List.cons_append, nameLen_eq] at hn0 ⊢
            split at hn0
            · rename_i hc
              have hm : isMore c = true := by simp [isMore, hc]
              rw [List.takeWhile_cons, if_pos hm] at hn0
              simp at hn0
            · rename_i hc; rw [if_neg hc]
        rw [if_pos this, Ans.ok_then]
        simp only
        rw [k2 _ m _ (by simp; omega) hs]
      · rename_i hn0
        obtain ⟨⟨nm, l2, a2⟩, h2, h1⟩ := then_ok h1
        cases h1
        obtain ⟨hnl, hnm, hna, _, hnn⟩ := name_pos h2
        obtain ⟨t1, rfl, hta, k1⟩ := name_loc _ _ _ _ _ h2
        have ht1 : t1.length = nm.length := by omega
        subst hl1 hta
        refine ⟨t1 ++ t2, by simp, by simp; omega, by simp; omega, fun m b hs => ?_⟩
        unfold sTests sHead
        have e1 := k1 (t2 ++ m) b (hs.pre t2)
        obtain ⟨_, _, _, _, hnn2⟩ := name_pos e1
        have h42 : ¬ ([42] : B).isPrefixOf (t1 ++ (t2 ++ m)) = true := by
          cases t1 with
          | nil => simp at ht1; omega
          | cons c t => rw [one_prefix] at hp ⊢; exact hp
        rw [List.append_assoc, if_neg h42, if_neg (by omega), then_of e1]
        simp only [Ans.ok_then]
        rw [k2 _ m _ (by simp; omega) hs]
        simp; omega
  exact ⟨fun l a v l' a' h => by obtain ⟨t, h1, h2, _, h3⟩ := main l a v l' a' h; exact ⟨t, h1, h2, h3⟩,
    fun l a v l' a' h => by obtain ⟨t, h1, h2, h3, _⟩ := main l a v l' a' h; omega⟩

theorem selEnds_same {g : Bool} {l m : B} (h : Same l m) : selEnds g l = selEnds g m := by
  unfold selEnds; rw [h.isEmpty, h.one, h.one]

theorem join_loc : Loc sJoin := by
  intro l a v l' a' h
  unfold sJoin at h
  obtain ⟨⟨l1, a1⟩, h1, h⟩ := then_ok h
  obtain ⟨t1, g1, rfl, rfl, st1, k1⟩ := gap_loc h1
  simp only at h
  split at h
  · rename_i hp
    obtain ⟨r, rfl, hd⟩ := prefix_split hp
    rw [show ([62] : B).length = 1 from rfl] at hd
    rw [hd] at h
    obtain ⟨⟨l2, a2⟩, h2, h⟩ := then_ok h
    obtain ⟨t2, g2, rfl, rfl, st2, k2⟩ := gap_loc h2
    cases h
    refine ⟨t1 ++ ([62] ++ t2), by simp, by simp; omega, fun m b hs => ?_⟩
    unfold sJoin
    rw [show (t1 ++ ([62] ++ t2)) ++ m = t1 ++ ([62] ++ (t2 ++ m)) from by simp, then_of (k1 ([62] ++ (t2 ++ m)) b ((hs.pre t2).pre [62]))]
    simp only
    rw [if_pos (prefix_pos _ _)]
    have hd2 : ([62] ++ (t2 ++ m)).drop 1 = t2 ++ m := rfl
    rw [hd2, then_of (k2 m _ hs)]
    simp; omega
  · rename_i hp1
    split at h
    · rename_i hp
      obtain ⟨r, rfl, hd⟩ := prefix_split hp
      rw [show ([43] : B).length = 1 from rfl] at hd
      rw [hd] at h
      obtain ⟨⟨l2, a2⟩, h2, h⟩ := then_ok h
      obtain ⟨t2, g2, rfl, rfl, st2, k2⟩ := gap_loc h2
      cases h
      refine ⟨t1 ++ ([43] ++ t2), by simp, by simp; omega, fun m b hs => ?_⟩
      unfold sJoin
      rw [show (t1 ++ ([43] ++ t2)) ++ m = t1 ++ ([43] ++ (t2 ++ m)) from by simp, then_of (k1 ([43] ++ (t2 ++ m)) b ((hs.pre t2).pre [43]))]
      simp only
      rw [if_neg (by simp [List.isPrefixOf]), if_pos (prefix_pos _ _)]
      have hd2 : ([43] ++ (t2 ++ m)).drop 1 = t2 ++ m := rfl
      rw [hd2, then_of (k2 m _ hs)]
      simp; omega
    · rename_i hp2
      have hdec : ∀ b : Nat, decide (b < b + t1.length) = decide (a < a + t1.length) := fun b => by
        rw [Bool.eq_iff_iff]; simp
      split at h
      · rename_i he
        cases h
        refine ⟨t1, rfl, rfl, fun m b hs => ?_⟩
        unfold sJoin
        rw [then_of (k1 m b hs)]
        simp only
        rw [← hs.one, if_neg hp1, ← hs.one, if_neg hp2, hdec, ← selEnds_same hs, if_pos he]
      · rename_i he
        cases h
        refine ⟨t1, rfl, rfl, fun m b hs => ?_⟩
        unfold sJoin
        rw [then_of (k1 m b hs)]
        simp only
        rw [← hs.one, if_neg hp1, ← hs.one, if_neg hp2, hdec, ← selEnds_same hs, if_neg he]

theorem selL_loc : ∀ (f : Nat) (ps : List PPart) (l : B) (a : Nat) (v : PSel) (l' : B) (a' : Nat), sSelL f ps l a = .ok (v, l', a') →
    ∃ t, l = t ++ l' ∧ a' = a + t.length ∧ ∀ (g : Nat) (m : B) (b : Nat), t.length < g → Same l' m → sSelL g ps (t ++ m) b = .ok (v, m, b + t.length) := by
  intro f
  induction f with
  | zero => intro ps l a v l' a' h; cases h
  | succ f ih =>
    intro ps l a v l' a' h
    rw [sSelL] at h
    obtain ⟨⟨x, l1, a1⟩, h1, h⟩ := then_ok h
    obtain ⟨t1, rfl, rfl, k1⟩ := join_loc _ _ _ _ _ h1
    cases x with
    | none =>
      cases h
      refine ⟨t1, rfl, rfl, fun g m b hg hs => ?_⟩
      cases g with
      | zero => simp at hg
      | succ g => rw [sSelL, then_of (k1 m b hs)]
    | some j =>
      simp only at h
      split at h
      · cases h
      · rename_i hn
        obtain ⟨⟨ts, l2, a2⟩, h2, h⟩ := then_ok h
        have hlt := tests_loc.2 _ _ _ _ _ h2
        obtain ⟨t2, rfl, rfl, k2⟩ := tests_loc.1 _ _ _ _ _ h2
        obtain ⟨t3, rfl, rfl, k3⟩ := ih _ _ _ _ _ _ h
        refine ⟨t1 ++ (t2 ++ t3), by simp, by simp; omega, fun g m b hg hs => ?_⟩
        cases g with
        | zero => simp at hg
        | succ g =>
          rw [sSelL, show (t1 ++ (t2 ++ t3)) ++ m = t1 ++ (t2 ++ (t3 ++ m)) from by simp, then_of (k1 _ b ((hs.pre t3).pre t2))]
          simp only
          rw [if_neg hn, then_of (k2 _ _ (hs.pre t3))]
          simp only
          rw [k3 g m _ (by simp at hg; omega) hs]
          simp; omega

theorem sel_loc : Loc sSel ∧ ∀ l a v l' a', sSel l a = .ok (v, l', a') → a < a' := by
  refine ⟨fun l a v l' a' h => ?_, fun l a v l' a' h => ?_⟩
  · unfold sSel at h
    obtain ⟨⟨ts, l1, a1⟩, h1, h⟩ := then_ok h
    obtain ⟨t1, rfl, rfl, k1⟩ := tests_loc.1 _ _ _ _ _ h1
    obtain ⟨t2, rfl, rfl, k2⟩ := selL_loc _ _ _ _ _ _ _ h
    refine ⟨t1 ++ t2, by simp, by simp; omega, fun m b hs => ?_⟩
    unfold sSel
    rw [List.append_assoc, then_of (k1 _ b (hs.pre t2))]
    simp only
    rw [k2 _ m _ (by simp; omega) hs]
    simp; omega
  · unfold sSel at h
    obtain ⟨⟨ts, l1, a1⟩, h1, h⟩ := then_ok h
    have := tests_loc.2 _ _ _ _ _ h1
    obtain ⟨t2, _, rfl, k2⟩ := selL_loc _ _ _ _ _ _ _ h
    omega

theorem selsL_loc : ∀ (f : Nat) (ss : List PSel) (l : B) (a : Nat) (v : List PSel) (l' : B) (a' : Nat), sSelsL f ss l a = .ok (v, l', a') →
    ∃ t, l = t ++ l' ∧ a' = a + t.length ∧ 0 < t.length ∧ ∀ (g : Nat) (m : B) (b : Nat), t.length < g → Same l' m → sSelsL g ss (t ++ m) b = .ok (v, m, b + t.length) := by
  intro f
  induction f with
  | zero => intro ps l a v l' a' h; cases h
  | succ f ih =>
    intro ps l a v l' a' h
    rw [sSelsL] at h
    split at h
    · cases h
    · rename_i hn
      obtain ⟨⟨x, l1, a1⟩, h1, h⟩ := then_ok h
      have hlt := sel_loc.2 _ _ _ _ _ h1
      obtain ⟨t1, rfl, rfl, k1⟩ := sel_loc.1 _ _ _ _ _ h1
      simp only at h
      split at h
      · rename_i hp
        obtain ⟨r, rfl, hd⟩ := prefix_split hp
        rw [show ([44] : B).length = 1 from rfl] at hd
        rw [hd] at h
        obtain ⟨⟨l2, a2⟩, h2, h⟩ := then_ok h
        obtain ⟨t2, g2, rfl, rfl, st2, k2⟩ := gap_loc h2
        obtain ⟨t3, rfl, rfl, p3, k3⟩ := ih _ _ _ _ _ _ h
        refine ⟨t1 ++ ([44] ++ (t2 ++ t3)), by simp, by simp; omega, by simp; omega, fun g m b hg hs => ?_⟩
        cases g with
        | zero => simp at hg
        | succ g =>
          rw [sSelsL, if_neg hn, show (t1 ++ ([44] ++ (t2 ++ t3))) ++ m = t1 ++ ([44] ++ (t2 ++ (t3 ++ m))) from by simp, then_of (k1 _ b (((hs.pre t3).pre t2).pre [44]))]
          simp only
          rw [if_pos (prefix_pos _ _)]
          have hd2 : ([44] ++ (t2 ++ (t3 ++ m))).drop 1 = t2 ++ (t3 ++ m) := rfl
          rw [hd2, then_of (k2 _ _ (hs.pre t3))]
          simp only
          rw [k3 g m _ (by simp at hg; omega) hs]
          simp; omega
      · rename_i hp
        cases h
        refine ⟨t1, rfl, rfl, by omega, fun g m b hg hs => ?_⟩
        cases g with
        | zero => simp at hg
        | succ g =>
          rw [sSelsL, if_neg hn, then_of (k1 m b hs)]
          simp only
          rw [← hs.one, if_neg hp]

/-! ### declarations -/
theorem valL_loc : ∀ (f : Nat) (ws : List B) (l : B) (a : Nat) (v : B) (l' : B) (a' : Nat), sValL f ws l a = .ok (v, l', a') →
    ∃ t, l = t ++ l' ∧ a' = a + t.length ∧ ∀ (g : Nat) (m : B) (b : Nat), t.length < g → Same l' m → sValL g ws (t ++ m) b = .ok (v, m, b + t.length) := by
  intro f
  induction f with
  | zero => intro ps l a v l' a' h; cases h
  | succ f ih =>
    intro ws l a v l' a' h
    rw [sValL] at h
    simp only at h
    split at h
    · rename_i hw
      split at h
      · cases h
      · rename_i hws
        cases h
        refine ⟨[], rfl, rfl, fun g m b hg hs => ?_⟩
        cases g with
        | zero => simp at hg
        | succ g =>
          rw [sValL]
          simp only
          have : ([] ++ m).takeWhile isWord = [] := takeWhile_same [] hs.head (by simpa using hw)
          rw [this, if_pos rfl, if_neg hws]; rfl
    · rename_i hw
      split at h
      · cases h
      · rename_i hlen
        obtain ⟨⟨l1, a1⟩, h1, h⟩ := then_ok h
        obtain ⟨t1, g1, hl1, rfl, st1, k1⟩ := gap_loc h1
        obtain ⟨t2, rfl, rfl, k2⟩ := ih _ _ _ _ _ _ h
        have hsplit : l = l.takeWhile isWord ++ (t1 ++ (t2 ++ l')) := by
          have hp : l = l.takeWhile isWord ++ l.drop (l.takeWhile isWord).length := by
            conv => lhs; rw [← List.take_append_drop (l.takeWhile isWord).length l]
            rw [takeWhile_take]
          rw [hl1] at hp; exact hp
        obtain ⟨w, hwd⟩ : ∃ w, w = l.takeWhile isWord := ⟨_, rfl⟩
        rw [← hwd] at hsplit hw hlen h h1 k2 ⊢
        subst hsplit
        have hpos : 0 < w.length := List.length_pos_iff.2 hw
        refine ⟨w ++ (t1 ++ t2), by simp, by simp; omega, fun g m b hg hs => ?_⟩
        cases g with
        | zero => simp at hg
        | succ g =>
          rw [sValL]
          simp only
          have hsame : Same (t1 ++ (t2 ++ l')) (t1 ++ (t2 ++ m)) := (hs.pre t2).pre t1
          have e0 : (w ++ (t1 ++ t2)) ++ m = w ++ (t1 ++ (t2 ++ m)) := by simp
          have : (w ++ (t1 ++ (t2 ++ m))).takeWhile isWord = w := takeWhile_same w hsame.head hwd.symm
          rw [e0, this, if_neg hw, if_neg hlen]
          have hd : (w ++ (t1 ++ (t2 ++ m))).drop w.length = t1 ++ (t2 ++ m) := by simp
          rw [hd, then_of (k1 _ _ (hs.pre t2))]
          simp only
          rw [k2 g m _ (by simp at hg; omega) hs]
          simp; omega

theorem val_loc : Loc sVal := by
  intro l a v l' a' h
  unfold sVal at h
  obtain ⟨t, h1, h2, k⟩ := valL_loc _ _ _ _ _ _ _ h
  exact ⟨t, h1, h2, fun m b hs => by unfold sVal; exact k _ m b (by simp; omega) hs⟩

theorem strong_loc : Loc sStrong := by
  intro l a v l' a' h
  unfold sStrong at h
  split at h
  · rename_i hp
    obtain ⟨r, rfl, hd⟩ := prefix_split hp
    rw [show ([33] : B).length = 1 from rfl] at hd
    rw [hd] at h
    obtain ⟨⟨l1, a1⟩, h1, h⟩ := then_ok h
    obtain ⟨rfl, rfl, k1⟩ := must_loc h1
    obtain ⟨⟨l2, a2⟩, h2, h⟩ := then_ok h
    obtain ⟨t2, g2, rfl, rfl, st2, k2⟩ := gap_loc h2
    cases h
    refine ⟨[33] ++ (importantWord ++ t2), by simp, by simp; omega, fun m b hs => ?_⟩
    unfold sStrong
    rw [show ([33] ++ (importantWord ++ t2)) ++ m = [33] ++ (importantWord ++ (t2 ++ m)) from by simp, if_pos (prefix_pos _ _)]
    have hd2 : ([33] ++ (importantWord ++ (t2 ++ m))).drop 1 = importantWord ++ (t2 ++ m) := rfl
    rw [hd2, then_of (k1 _ _)]
    simp only
    rw [then_of (k2 _ _ hs)]
    simp; omega
  · rename_i hp
    cases h
    refine ⟨[], rfl, rfl, fun m b hs => ?_⟩
    unfold sStrong
    rw [List.nil_append, ← hs.one, if_neg hp]; rfl

theorem decl_loc : Loc sDecl ∧ ∀ l a v l' a', sDecl l a = .ok (v, l', a') → a < a' := by
  have main : ∀ l a v l' a', sDecl l a = .ok (v, l', a') → ∃ t, l = t ++ l' ∧ a' = a + t.length ∧ 0 < t.length ∧ ∀ m b, Same l' m → sDecl (t ++ m) b = .ok (v, m, b + t.length) := by
    intro l a v l' a' h
    unfold sDecl at h
    obtain ⟨⟨nm, l1, a1⟩, h1, h⟩ := then_ok h
    obtain ⟨hpos, _, hna, _, _⟩ := name_pos h1
    obtain ⟨t1, rfl, hta, k1⟩ := name_loc _ _ _ _ _ h1
    have ht1 : t1.length = nm.length := by omega
    subst hta
    obtain ⟨⟨l2, a2⟩, h2, h⟩ := then_ok h
    obtain ⟨t2, g2, rfl, rfl, st2, k2⟩ := gap_loc h2
    obtain ⟨⟨l3, a3⟩, h3, h⟩ := then_ok h
    obtain ⟨rfl, rfl, k3⟩ := must_loc h3
    obtain ⟨⟨l4, a4⟩, h4, h⟩ := then_ok h
    obtain ⟨t4, g4, rfl, rfl, st4, k4⟩ := gap_loc h4
    obtain ⟨⟨v5, l5, a5⟩, h5, h⟩ := then_ok h
    obtain ⟨t5, rfl, rfl, k5⟩ := val_loc _ _ _ _ _ h5
    obtain ⟨⟨v6, l6, a6⟩, h6, h⟩ := then_ok h
    obtain ⟨t6, rfl, rfl, k6⟩ := strong_loc _ _ _ _ _ h6
    cases h
    refine ⟨t1 ++ (t2 ++ ([58] ++ (t4 ++ (t5 ++ t6)))), by simp, by simp; omega, by simp; omega, fun m b hs => ?_⟩
    unfold sDecl
    rw [show (t1 ++ (t2 ++ ([58] ++ (t4 ++ (t5 ++ t6))))) ++ m = t1 ++ (t2 ++ ([58] ++ (t4 ++ (t5 ++ (t6 ++ m))))) from by simp]
    rw [then_of (k1 _ b (((((hs.pre t6).pre t5).pre t4).pre [58]).pre t2))]
    simp only
    rw [then_of (k2 _ _ ((((hs.pre t6).pre t5).pre t4).pre [58]))]
    simp only
    rw [then_of (k3 _ _)]
    simp only
    rw [then_of (k4 _ _ ((hs.pre t6).pre t5))]
    simp only
    rw [then_of (k5 _ _ (hs.pre t6))]
    simp only
    rw [then_of (k6 _ _ hs)]
    simp; omega
  exact ⟨fun l a v l' a' h => by obtain ⟨t, h1, h2, _, h3⟩ := main l a v l' a' h; exact ⟨t, h1, h2, h3⟩,
    fun l a v l' a' h => by obtain ⟨t, h1, h2, h3, _⟩ := main l a v l' a' h; omega⟩

theorem declsL_loc : ∀ (f : Nat) (ds : List PDecl) (l : B) (a : Nat) (v : List PDecl) (l' : B) (a' : Nat), sDeclsL f ds l a = .ok (v, l', a') →
    ∃ t, l = t ++ l' ∧ a' = a + t.length ∧ ∀ (g : Nat) (m : B) (b : Nat), t.length < g → Same l' m → sDeclsL g ds (t ++ m) b = .ok (v, m, b + t.length) := by
  intro f
  induction f with
  | zero => intro ps l a v l' a' h; cases h
  | succ f ih =>
    intro ds l a v l' a' h
    rw [sDeclsL] at h
    split at h
    · rename_i he
      cases h
      refine ⟨[], rfl, rfl, fun g m b hg hs => ?_⟩
      cases g with
      | zero => simp at hg
      | succ g => rw [sDeclsL, List.nil_append, ← hs.isEmpty, ← hs.one, if_pos he]; rfl
    · rename_i he
      split at h
      · cases h
      · rename_i hn
        obtain ⟨⟨d, l1, a1⟩, h1, h⟩ := then_ok h
        have hlt := decl_loc.2 _ _ _ _ _ h1
        obtain ⟨t1, rfl, rfl, k1⟩ := decl_loc.1 _ _ _ _ _ h1
        have he2 : ∀ m : B, ¬ ((t1 ++ m).isEmpty || ([125] : B).isPrefixOf (t1 ++ m)) = true := by
          intro m
          cases t1 with
          | nil => simp at hlt
          | cons c t => rw [one_prefix] at he ⊢; exact he
        simp only at h
        split at h
        · rename_i hp
          obtain ⟨r, rfl, hd⟩ := prefix_split hp
          rw [show ([59] : B).length = 1 from rfl] at hd
          rw [hd] at h
          obtain ⟨⟨l2, a2⟩, h2, h⟩ := then_ok h
          obtain ⟨t2, g2, rfl, rfl, st2, k2⟩ := gap_loc h2
          obtain ⟨t3, rfl, rfl, k3⟩ := ih _ _ _ _ _ _ h
          refine ⟨t1 ++ ([59] ++ (t2 ++ t3)), by simp, by simp; omega, fun g m b hg hs => ?_⟩
          cases g with
          | zero => simp at hg
          | succ g =>
            rw [sDeclsL, show (t1 ++ ([59] ++ (t2 ++ t3))) ++ m = t1 ++ ([59] ++ (t2 ++ (t3 ++ m))) from by simp, if_neg (he2 _), if_neg hn, then_of (k1 _ b (((hs.pre t3).pre t2).pre [59]))]
            simp only
            rw [if_pos (prefix_pos _ _)]
            have hd2 : ([59] ++ (t2 ++ (t3 ++ m))).drop 1 = t2 ++ (t3 ++ m) := rfl
            rw [hd2, then_of (k2 _ _ (hs.pre t3))]
            simp only
            rw [k3 g m _ (by simp at hg; omega) hs]
            simp; omega
        · rename_i hp
          cases h
          refine ⟨t1, rfl, rfl, fun g m b hg hs => ?_⟩
          cases g with
          | zero => simp at hg
          | succ g =>
            rw [sDeclsL, if_neg (he2 _), if_neg hn, then_of (k1 m b hs)]
            simp only
            rw [← hs.one, if_neg hp]

theorem decls_loc : Loc sDecls := by
  intro l a v l' a' h
  unfold sDecls at h
  obtain ⟨⟨l1, a1⟩, h1, h⟩ := then_ok h
  obtain ⟨t1, g1, rfl, rfl, st1, k1⟩ := gap_loc h1
  obtain ⟨t2, rfl, rfl, k2⟩ := declsL_loc _ _ _ _ _ _ _ h
  refine ⟨t1 ++ t2, by simp, by simp; omega, fun m b hs => ?_⟩
  unfold sDecls
  rw [List.append_assoc, then_of (k1 _ b (hs.pre t2))]
  simp only
  rw [k2 _ m _ (by simp; omega) hs]
  simp; omega

/-! ### rules -/
/-- a rule, read anywhere: what stands behind it is no matter -/
theorem rule_loc {media l : B} {a : Nat} {r : PRule} {l' : B} {a' : Nat} (h : sRule media l a = .ok (r, l', a')) :
    ∃ t, l = t ++ l' ∧ a' = a + t.length ∧ r.media = media ∧ r.lo = (a : Int) ∧ r.hi = ((a + t.length : Nat) : Int) ∧ 0 < t.length ∧
      ∀ (md m : B) (b : Nat), sRule md (t ++ m) b = .ok (⟨md, r.sels, r.decls, (b : Int), ((b + t.length : Nat) : Int)⟩, m, b + t.length) := by
  unfold sRule at h
  obtain ⟨⟨ss, l1, a1⟩, h1, h⟩ := then_ok h
  obtain ⟨t1, rfl, rfl, p1, k1⟩ := selsL_loc _ _ _ _ _ _ _ h1
  obtain ⟨⟨l2, a2⟩, h2, h⟩ := then_ok h
  obtain ⟨rfl, rfl, k2⟩ := must_loc h2
  obtain ⟨⟨ds, l3, a3⟩, h3, h⟩ := then_ok h
  obtain ⟨t3, rfl, rfl, k3⟩ := decls_loc _ _ _ _ _ h3
  obtain ⟨⟨l4, a4⟩, h4, h⟩ := then_ok h
  obtain ⟨rfl, rfl, k4⟩ := must_loc h4
  cases h
  refine ⟨t1 ++ ([123] ++ (t3 ++ [125])), by simp, by simp; omega, rfl, rfl, by simp; omega, by simp; omega, fun md m b => ?_⟩
  have hs : Same ([125] ++ l') ([125] ++ m) := Same.guard (by decide) _ _
  unfold sRule
  rw [show (t1 ++ ([123] ++ (t3 ++ [125]))) ++ m = t1 ++ ([123] ++ (t3 ++ ([125] ++ m))) from by simp]
  rw [then_of (k1 _ _ b (by simp; omega) ((hs.pre t3).pre [123]))]
  simp only
  rw [then_of (k2 _ _)]
  simp only
  rw [then_of (k3 _ _ hs)]
  simp only
  rw [then_of (k4 _ _)]
  simp; omega

/-- a media's head, read anywhere -/
theorem mediaHead_loc {l nm : B} {a : Nat} {l' : B} {a' : Nat} (h : sMediaHead l a = .ok (nm, l', a')) :
    ∃ t, l = t ++ l' ∧ a' = a + t.length ∧ nm ≠ [] ∧ ∀ (m : B) (b : Nat), sMediaHead (t ++ m) b = .ok (nm, m, b + t.length) := by
  unfold sMediaHead at h
  obtain ⟨⟨l1, a1⟩, h1, h⟩ := then_ok h
  obtain ⟨t1, g1, rfl, rfl, st1, k1⟩ := gap_loc h1
  simp only at h
  split at h
  · cases h
  · rename_i hne
    obtain ⟨⟨nm2, l2, a2⟩, h2, h⟩ := then_ok h
    obtain ⟨hpos, _⟩ := name_pos h2
    obtain ⟨t2, rfl, rfl, k2⟩ := name_loc _ _ _ _ _ h2
    obtain ⟨⟨l3, a3⟩, h3, h⟩ := then_ok h
    obtain ⟨t3, g3, rfl, rfl, st3, k3⟩ := gap_loc h3
    obtain ⟨⟨l4, a4⟩, h4, h⟩ := then_ok h
    obtain ⟨rfl, rfl, k4⟩ := must_loc h4
    cases h
    refine ⟨t1 ++ (t2 ++ (t3 ++ [123])), by simp, by simp; omega, by rintro rfl; simp at hpos, fun m b => ?_⟩
    have hs : Same ([123] ++ l4) ([123] ++ m) := Same.guard (by decide) _ _
    unfold sMediaHead
    rw [show (t1 ++ (t2 ++ (t3 ++ [123]))) ++ m = t1 ++ (t2 ++ (t3 ++ ([123] ++ m))) from by simp]
    rw [then_of (k1 _ b ((hs.pre t3).pre t2))]
    simp only
    rw [if_neg (by omega), then_of (k2 _ _ (hs.pre t3))]
    simp only
    rw [then_of (k3 _ _ hs)]
    simp only
    rw [then_of (k4 _ _)]
    simp; omega

end Go.Proofs.Ytplbdlgmjehckab
