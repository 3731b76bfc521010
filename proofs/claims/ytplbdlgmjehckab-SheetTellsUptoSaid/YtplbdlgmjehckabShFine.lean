/-
  Plain Lean, no program: what is wrong with a sheet is wrong somewhere in it.
-/
import Derived.Test.YtplbdlgmjehckabShSpec
namespace Go.Proofs.Ytplbdlgmjehckab
set_option linter.unusedVariables false
set_option linter.unusedSimpArgs false

def SB (n : Nat) (f : Flt) : Prop := f.err ≠ 0 ∧ f.pos ≤ n
def SF {α : Type} (n : Nat) (r : Ans (α × B × Nat)) : Prop := match r with
  | .bad f => SB n f
  | .ok (_, l, a) => a + l.length = n
def SG (n : Nat) (r : Ans (B × Nat)) : Prop := match r with
  | .bad f => SB n f
  | .ok (l, a) => a + l.length = n
theorem SF.then {α β : Type} {n : Nat} {r : Ans (α × B × Nat)} {k : α × B × Nat → Ans (β × B × Nat)} (h : SF n r) (hk : ∀ v l a, a + l.length = n → SF n (k (v, l, a))) : SF n (r.then k) := by
  cases r with
  | bad f => exact h
  | ok x => obtain ⟨v, l, a⟩ := x; exact hk v l a h
theorem SG.then {β : Type} {n : Nat} {r : Ans (B × Nat)} {k : B × Nat → Ans (β × B × Nat)} (h : SG n r) (hk : ∀ l a, a + l.length = n → SF n (k (l, a))) : SF n (r.then k) := by
  cases r with
  | bad f => exact h
  | ok x => obtain ⟨l, a⟩ := x; exact hk l a h
theorem sb {n a e : Nat} {l : B} (h : a + l.length = n) (he : e ≠ 0) : SB n ⟨e, a⟩ := ⟨he, by show a ≤ n; omega⟩
theorem prefix_le2 {w l : B} (h : w.isPrefixOf l = true) : w.length ≤ l.length := (List.isPrefixOf_iff_prefix.1 h).length_le
theorem drop_at {w l : B} {a n : Nat} (hp : w.isPrefixOf l = true) (h : a + l.length = n) : a + w.length + (l.drop w.length).length = n := by
  have := prefix_le2 hp; simp; omega
theorem sgaps_fine : ∀ (f : Nat) {n : Nat} (l : B) (a : Nat), a + l.length = n → SG n (sGaps f l a)
  | 0, n, l, a, h => ⟨by simp, Nat.zero_le _⟩
  | f + 1, n, [], a, h => h
  | f + 1, n, c :: t, a, h => by
    simp only [sGaps]
    split
    · exact sgaps_fine f t _ (by simp at h; omega)
    · split
      · rename_i hp
        have hp2 := prefix_le2 hp
        split
        · exact sb h (by simp)
        · rename_i e hf
          have := findSub_le _ _ _ hf
          refine sgaps_fine f _ _ ?_
          simp only [List.length_drop, gapEnd, gapBegin, List.length_cons, List.length_nil] at this hp2 h ⊢
          omega
      · exact h
theorem sgap_fine {n : Nat} {l : B} {a : Nat} (h : a + l.length = n) : SG n (sGap l a) := sgaps_fine _ l a h
theorem sname_fine {n : Nat} {l : B} {a : Nat} (h : a + l.length = n) : SF n (sName l a) := by
  have := nameLen_le l
  unfold sName
  split
  · exact sb h (by simp)
  · show _ + _ = n; simp; omega
theorem smust_fine {n : Nat} {w l : B} {a : Nat} (h : a + l.length = n) : SG n (pMust w l a) := by
  unfold pMust
  split
  · rename_i hp; exact drop_at hp h
  · exact sb h (by simp)
theorem sattrTest_fine {n : Nat} {l : B} {a : Nat} (h : a + l.length = n) : SF n (sAttrTest l a) := by
  refine (sname_fine h).then fun v l a h => ?_
  simp only
  split
  · exact sb h (by simp)
  · split
    · rename_i hp
      refine (sname_fine (drop_at hp h)).then fun v l a h => ?_
      exact (smust_fine h).then fun l a h => h
    · exact (smust_fine h).then fun l a h => h
theorem stest_fine {n : Nat} {l : B} {a : Nat} (h : a + l.length = n) : SF n (sTest l a) := by
  unfold sTest
  split
  · rename_i hp; exact (sname_fine (drop_at hp h)).then fun v l a h => h
  · split
    · rename_i hp; exact (sname_fine (drop_at hp h)).then fun v l a h => h
    · split
      · rename_i hp; exact drop_at hp h
      · split
        · rename_i hp; exact (sattrTest_fine (drop_at hp h)).then fun v l a h => h
        · exact h
theorem stestsL_fine : ∀ (f : Nat) {n : Nat} (ts : List PTest) (q : Bool) (l : B) (a : Nat), a + l.length = n → SF n (sTestsL f ts q l a)
  | 0, n, ts, q, l, a, h => ⟨by simp, Nat.zero_le _⟩
  | f + 1, n, ts, q, l, a, h => by
    rw [sTestsL]
    refine (stest_fine h).then fun v l1 a1 h1 => ?_
    cases v with
    | none =>
      simp only
      split
      · exact h
      · exact sb h (by simp)
    | some t =>
      simp only
      split
      · exact sb h1 (by simp)
      · exact stestsL_fine f _ _ _ _ h1
theorem stests_fine {n : Nat} {l : B} {a : Nat} (h : a + l.length = n) : SF n (sTests l a) := by
  unfold sTests sHead
  split
  · rename_i hp; exact stestsL_fine _ _ _ _ _ (drop_at hp h)
  · split
    · exact stestsL_fine _ _ _ _ _ h
    · have := sname_fine h
      cases hx : sName l a with
      | bad f => rw [hx] at this; exact this
      | ok x => rw [hx] at this; exact stestsL_fine _ _ _ _ _ this
theorem sjoin_fine {n : Nat} {l : B} {a : Nat} (h : a + l.length = n) : SF n (sJoin l a) := by
  refine (sgap_fine h).then fun l a h => ?_
  simp only
  split
  · rename_i hp; exact (sgap_fine (drop_at hp h)).then fun l a h => h
  · split
    · rename_i hp; exact (sgap_fine (drop_at hp h)).then fun l a h => h
    · split
      · exact h
      · exact h
theorem sselL_fine : ∀ (f : Nat) {n : Nat} (ps : List PPart) (l : B) (a : Nat), a + l.length = n → SF n (sSelL f ps l a)
  | 0, n, ps, l, a, h => ⟨by simp, Nat.zero_le _⟩
  | f + 1, n, ps, l, a, h => by
    rw [sSelL]
    refine (sjoin_fine h).then fun v l1 a1 h1 => ?_
    cases v with
    | none => exact h1
    | some t =>
      simp only
      split
      · exact sb h1 (by simp)
      · exact (stests_fine h1).then fun v l a h => sselL_fine f _ _ _ h
theorem ssel_fine {n : Nat} {l : B} {a : Nat} (h : a + l.length = n) : SF n (sSel l a) :=
  (stests_fine h).then fun v l a h => sselL_fine _ _ _ _ h
theorem svalL_fine : ∀ (f : Nat) {n : Nat} (ws : List B) (l : B) (a : Nat), a + l.length = n → SF n (sValL f ws l a)
  | 0, n, ws, l, a, h => ⟨by simp, Nat.zero_le _⟩
  | f + 1, n, ws, l, a, h => by
    rw [sValL]
    simp only
    split
    · split
      · exact sb h (by simp)
      · exact h
    · split
      · exact sb h (by simp)
      · refine (sgap_fine ?_).then fun l a h => svalL_fine f _ _ _ h
        have := takeWhile_len_le isWord l
        simp; omega
theorem sstrong_fine {n : Nat} {l : B} {a : Nat} (h : a + l.length = n) : SF n (sStrong l a) := by
  unfold sStrong
  split
  · rename_i hp
    have hm := smust_fine (w := importantWord) (drop_at hp h)
    simp only [List.length_cons, List.length_nil, Nat.zero_add] at hm
    cases hx : pMust importantWord (l.drop 1) (a + 1) with
    | bad f => rw [hx] at hm; exact hm
    | ok x => rw [hx] at hm; exact (sgap_fine hm).then fun l a h => h
  · exact h
theorem sdecl_fine {n : Nat} {l : B} {a : Nat} (h : a + l.length = n) : SF n (sDecl l a) := by
  refine (sname_fine h).then fun v l a h => ?_
  refine (sgap_fine h).then fun l a h => ?_
  refine (smust_fine h).then fun l a h => ?_
  refine (sgap_fine h).then fun l a h => ?_
  refine (svalL_fine _ _ _ _ h).then fun v l a h => ?_
  exact (sstrong_fine h).then fun v l a h => h
theorem sdeclsL_fine : ∀ (f : Nat) {n : Nat} (ds : List PDecl) (l : B) (a : Nat), a + l.length = n → SF n (sDeclsL f ds l a)
  | 0, n, ds, l, a, h => ⟨by simp, Nat.zero_le _⟩
  | f + 1, n, ds, l, a, h => by
    rw [sDeclsL]
    split
    · exact h
    · split
      · exact sb h (by simp)
      · refine (sdecl_fine h).then fun v l a h => ?_
        simp only
        split
        · rename_i hp; exact (sgap_fine (drop_at hp h)).then fun l a h => sdeclsL_fine f _ _ _ h
        · exact h
theorem sdecls_fine {n : Nat} {l : B} {a : Nat} (h : a + l.length = n) : SF n (sDecls l a) := (sgap_fine h).then fun l a h => sdeclsL_fine _ _ _ _ h
theorem sselsL_fine : ∀ (f : Nat) {n : Nat} (ss : List PSel) (l : B) (a : Nat), a + l.length = n → SF n (sSelsL f ss l a)
  | 0, n, ss, l, a, h => ⟨by simp, Nat.zero_le _⟩
  | f + 1, n, ss, l, a, h => by
    rw [sSelsL]
    split
    · exact sb h (by simp)
    · refine (ssel_fine h).then fun v l a h => ?_
      simp only
      split
      · rename_i hp; exact (sgap_fine (drop_at hp h)).then fun l a h => sselsL_fine f _ _ _ h
      · exact h
theorem srule_fine {n : Nat} {md l : B} {a : Nat} (h : a + l.length = n) : SF n (sRule md l a) := by
  refine (sselsL_fine _ _ _ _ h).then fun v l a h => ?_
  refine (smust_fine h).then fun l a h => ?_
  refine (sdecls_fine h).then fun v l a h => ?_
  exact (smust_fine h).then fun l a h => h
theorem smedia_fine {n : Nat} {l : B} {a : Nat} (h : a + l.length = n) : SF n (sMediaHead l a) := by
  refine (sgap_fine h).then fun l1 a1 h1 => ?_
  simp only
  split
  · exact sb h1 (by simp)
  · refine (sname_fine h1).then fun v l a h => ?_
    refine (sgap_fine h).then fun l a h => ?_
    exact (smust_fine h).then fun l a h => h
theorem srulesL_fine : ∀ (f : Nat) {n : Nat} (md : B) (rs : List PRule) (l : B) (a : Nat), a + l.length = n → SF n (sRulesL f md rs l a)
  | 0, n, md, rs, l, a, h => ⟨by simp, Nat.zero_le _⟩
  | f + 1, n, md, rs, l, a, h => by
    rw [sRulesL]
    split
    · exact h
    · split
      · rename_i hp
        rw [Bool.and_eq_true] at hp
        refine (smedia_fine (drop_at hp.2 h)).then fun v l a h => ?_
        refine (sgap_fine h).then fun l a h => ?_
        refine (srulesL_fine f _ _ _ _ h).then fun v l a h => ?_
        refine (smust_fine h).then fun l a h => ?_
        exact (sgap_fine h).then fun l a h => srulesL_fine f _ _ _ _ h
      · split
        · exact sb h (by simp)
        · refine (srule_fine h).then fun v l a h => ?_
          exact (sgap_fine h).then fun l a h => srulesL_fine f _ _ _ _ h
theorem sparse_bad {s : B} {f : Flt} (h : sParse s = .bad f) : f.err ≠ 0 ∧ f.pos ≤ s.length := by
  unfold sParse at h
  split at h
  · cases h; exact ⟨by simp, Nat.zero_le _⟩
  · have h1 : SF s.length ((sGap s 0).then fun x => sRulesL (s.length + 1) [] [] x.1 x.2) := (sgap_fine (by simp)).then fun l a h => srulesL_fine _ _ _ _ _ h
    cases hg : sGap s 0 with
    | bad g => rw [hg] at h h1; cases h; exact h1
    | ok x =>
      rw [hg] at h h1
      simp only [Ans.ok_then] at h h1
      cases hr : sRulesL (s.length + 1) [] [] x.1 x.2 with
      | bad g => rw [hr] at h h1; cases h; exact h1
      | ok y =>
        rw [hr] at h h1
        obtain ⟨v, l, a⟩ := y
        simp only [Ans.ok_then] at h
        have h2 : a + l.length = s.length := h1
        split at h
        · cases h
        · cases h; exact sb h2 (by simp)
theorem sdeclsOf_bad {s : B} {f : Flt} (h : sDeclsOf s = .bad f) : f.err ≠ 0 ∧ f.pos ≤ s.length := by
  unfold sDeclsOf at h
  split at h
  · cases h; exact ⟨by simp, Nat.zero_le _⟩
  · have h1 : SF s.length (sDecls s 0) := sdecls_fine (by simp)
    cases hr : sDecls s 0 with
    | bad g => rw [hr] at h h1; cases h; exact h1
    | ok y =>
      rw [hr] at h h1
      obtain ⟨v, l, a⟩ := y
      simp only [Ans.ok_then] at h
      have h2 : a + l.length = s.length := h1
      split at h
      · cases h
      · cases h; exact sb h2 (by simp)

end Go.Proofs.Ytplbdlgmjehckab
