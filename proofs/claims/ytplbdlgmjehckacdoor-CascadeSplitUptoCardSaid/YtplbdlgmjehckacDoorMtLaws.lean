/-
  Plain Lean, no program: one test more means no more; right above is somewhere above; a rule is its selectors.
-/
import Derived.Test.YtplbdlgmjehckacDoorMtSpec
namespace Go.Proofs.YtplbdlgmjehckacDoor
set_option linter.unusedVariables false
set_option linter.unusedSimpArgs false

/-! ### parts that ask no less -/
/-- lists of parts (the last one first), each of the first asking all that the second one's asks -/
inductive Asks (l : List PNode) : List PPart → List PPart → Prop
  | nil : Asks l [] []
  | cons {p q : PPart} {ps qs : List PPart} (hp : ∀ k, mPart l k p = true → mPart l k q = true) (hj : ∀ (f : Int → Bool) (k : Nat), (∀ x, f x = true → inR l x = true) → mJoin l p.join f k = true → mJoin l q.join f k = true) (hs : Asks l ps qs) : Asks l (p :: ps) (q :: qs)
theorem mAt_inR {l : List PNode} {ps : List PPart} {k : Int} (h : mAt l ps k = true) : inR l k = true := by
  cases ps with
  | nil => exact h
  | cons p ps => exact ((mAt_cons l p ps k).1 h).1
theorem Asks.at {l : List PNode} {ps qs : List PPart} (h : Asks l ps qs) : ∀ k, mAt l ps k = true → mAt l qs k = true := by
  induction h with
  | nil => intro k h; exact h
  | cons hp hj hs ih =>
    intro k hk
    rw [mAt_cons] at hk ⊢
    refine ⟨hk.1, hp _ hk.2.1, ?_⟩
    rcases hk.2.2 with h | h
    · subst h; cases hs; exact .inl rfl
    · exact .inr (hj _ _ (fun x hx => mAt_inR hx) (mJoin_mono ih h))
theorem Asks.refl (l : List PNode) : ∀ ps, Asks l ps ps
  | [] => .nil
  | p :: ps => .cons (fun _ h => h) (fun _ _ _ h => h) (Asks.refl l ps)
theorem Asks.app {l : List PNode} {ps qs ps' qs' : List PPart} (h : Asks l ps qs) (h' : Asks l ps' qs') : Asks l (ps ++ ps') (qs ++ qs') := by
  induction h with
  | nil => exact h'
  | cons hp hj hs ih => exact .cons hp hj ih
theorem Asks.len {l : List PNode} {ps qs : List PPart} (h : Asks l ps qs) : ps.length = qs.length := by
  induction h with
  | nil => rfl
  | cons _ _ _ ih => simp [ih]
theorem Asks.rev {l : List PNode} {ps qs : List PPart} (h : Asks l ps qs) : Asks l ps.reverse qs.reverse := by
  induction h with
  | nil => exact .nil
  | cons hp hj hs ih => rw [List.reverse_cons, List.reverse_cons]; exact ih.app (.cons hp hj .nil)
theorem Asks.matches {l : List PNode} {s m : PSel} (h : Asks l m s) {k : Int} (hm : mMatches l k m = true) : mMatches l k s = true := by
  unfold mMatches at hm ⊢
  simp only [Bool.and_eq_true, Bool.not_eq_true', List.isEmpty_eq_false_iff] at hm ⊢
  refine ⟨?_, h.rev.at k hm.2⟩
  intro hs
  have := h.len
  rw [hs] at this
  exact hm.1 (List.length_eq_zero_iff.1 this)
theorem set_split {s : PSel} {i : Nat} {p : PPart} (h : s[i]? = some p) : s = s.take i ++ p :: s.drop (i + 1) := by
  obtain ⟨hi, rfl⟩ := List.getElem?_eq_some_iff.1 h
  rw [← List.drop_eq_getElem_cons hi, List.take_append_drop]
/-- one part asks more -/
theorem asks_one {l : List PNode} {s : PSel} {i : Nat} {p q : PPart} (h : s[i]? = some p) (hp : ∀ k, mPart l k q = true → mPart l k p = true)
    (hj : ∀ (f : Int → Bool) (k : Nat), (∀ x, f x = true → inR l x = true) → mJoin l q.join f k = true → mJoin l p.join f k = true) : Asks l (s.take i ++ q :: s.drop (i + 1)) s := by
  conv => rhs; rw [set_split h]
  exact (Asks.refl l _).app (.cons hp hj (Asks.refl l _))
theorem more_test {l : List PNode} {s : PSel} {i : Nat} {p : PPart} (h : s[i]? = some p) (t : PTest) {k : Int}
    (hm : mMatches l k (s.take i ++ { p with tests := p.tests ++ [t] } :: s.drop (i + 1)) = true) : mMatches l k s = true := by
  refine (asks_one (q := { p with tests := p.tests ++ [t] }) h (fun k hk => ?_) (fun _ _ _ hk => hk)).matches hm
  unfold mPart at hk ⊢
  simp only [List.all_append, Bool.and_eq_true] at hk
  exact hk.1

/-! ### weights -/
def PWt.le (x y : PWt) : Prop := x.a ≤ y.a ∧ x.b ≤ y.b ∧ x.c ≤ y.c
theorem PWt.le.rfl' {x : PWt} : x.le x := ⟨Nat.le_refl _, Nat.le_refl _, Nat.le_refl _⟩
theorem wTest_mono {x y : PWt} (h : x.le y) (t : PTest) : (wTest x t).le (wTest y t) := by
  obtain ⟨h1, h2, h3⟩ := h
  unfold wTest
  split
  · exact ⟨by simp; omega, h2, h3⟩
  · split
    · exact ⟨h1, h2, by simp; omega⟩
    · split
      · exact ⟨h1, by simp; omega, h3⟩
      · exact ⟨h1, h2, h3⟩
theorem wTest_grow (x : PWt) (t : PTest) : x.le (wTest x t) := by
  unfold wTest
  split
  · exact ⟨by simp, Nat.le_refl _, Nat.le_refl _⟩
  · split
    · exact ⟨Nat.le_refl _, Nat.le_refl _, by simp⟩
    · split
      · exact ⟨Nat.le_refl _, by simp, Nat.le_refl _⟩
      · exact PWt.le.rfl'
theorem PWt.le.trans {x y z : PWt} (h : x.le y) (g : y.le z) : x.le z := ⟨Nat.le_trans h.1 g.1, Nat.le_trans h.2.1 g.2.1, Nat.le_trans h.2.2 g.2.2⟩
theorem tests_mono : ∀ (ts : List PTest) {x y : PWt}, x.le y → (ts.foldl wTest x).le (ts.foldl wTest y)
  | [], x, y, h => h
  | t :: ts, x, y, h => tests_mono ts (wTest_mono h t)
theorem parts_mono : ∀ (ps : List PPart) {x y : PWt}, x.le y → (ps.foldl wPart x).le (ps.foldl wPart y)
  | [], x, y, h => h
  | p :: ps, x, y, h => parts_mono ps (tests_mono p.tests h)
theorem more_weighs {s : PSel} {i : Nat} {p : PPart} (h : s[i]? = some p) (t : PTest) : (mWeigh s).le (mWeigh (s.take i ++ { p with tests := p.tests ++ [t] } :: s.drop (i + 1))) := by
  conv => lhs; rw [set_split h]
  unfold mWeigh
  simp only [List.foldl_append, List.foldl_cons]
  apply parts_mono
  unfold wPart
  simp only [List.foldl_append, List.foldl_cons, List.foldl_nil]
  exact wTest_grow _ t

/-! ### right above is somewhere above -/
theorem mAt_first {l : List PNode} : ∀ {ps qs : List PPart} {k : Int}, ps ≠ [] → mAt l (ps ++ qs) k = true → mAt l ps k = true
  | [], qs, k, h, _ => absurd rfl h
  | p :: ps, qs, k, _, h => by
    rw [List.cons_append, mAt_cons] at h
    rw [mAt_cons]
    refine ⟨h.1, h.2.1, ?_⟩
    by_cases hp : ps = []
    · exact .inl hp
    · right
      rcases h.2.2 with h2 | h2
      · simp at h2; exact absurd h2.1 hp
      · exact mJoin_mono (fun x hx => mAt_first hp hx) h2
theorem matches_drop {l : List PNode} {s : PSel} {k : Int} {i : Nat} (h : mMatches l k s = true) (hi : i < s.length) : mMatches l k (s.drop i) = true := by
  unfold mMatches at h ⊢
  simp only [Bool.and_eq_true, Bool.not_eq_true', List.isEmpty_eq_false_iff] at h ⊢
  have hne : s.drop i ≠ [] := by
    intro h0
    have := congrArg List.length h0
    simp at this; omega
  refine ⟨hne, ?_⟩
  have := h.2
  rw [← List.take_append_drop i s, List.reverse_append] at this
  exact mAt_first (by simpa using hne) this
/-- parents stand ahead -/
def Right (l : List PNode) : Prop := ∀ (i : Nat) (n : PNode), l[i]? = some n → n.parent < (i : Int) ∧ -1 ≤ n.parent
theorem child_below {l : List PNode} (hr : Right l) {f : Int → Bool} {k : Nat} (hf : ∀ x, f x = true → inR l x = true) (h : mJoin l 2 f k = true) : mJoin l 1 f k = true := by
  unfold mJoin at h ⊢
  rw [if_pos rfl] at h
  rw [if_neg (by decide), if_neg (by decide), if_pos rfl, ups_eq]
  have h1 := hf _ h
  simp only [inR, Bool.and_eq_true, decide_eq_true_eq] at h1
  have h2 : parentOf l k < (k : Int) := by
    unfold parentOf
    cases hk : l[k]? with
    | none => simp; omega
    | some n => exact (hr k n hk).1
  rw [if_pos ⟨h1.1, h2⟩, List.any_cons]
  rw [show ((parentOf l k).toNat : Int) = parentOf l k from by omega, h]; rfl
theorem joined_below {l : List PNode} (hr : Right l) {s : PSel} {k : Int} {i : Nat} {p : PPart} (h : mMatches l k s = true) (hp : s[i]? = some p) :
    mMatches l k (s.take i ++ { p with join := if p.join = 2 then 1 else p.join } :: s.drop (i + 1)) = true := by
  refine Asks.matches ?_ h
  conv => lhs; rw [set_split hp]
  refine (Asks.refl l _).app (.cons (fun _ h => h) (fun f k hf h => ?_) (Asks.refl l _))
  simp only
  split
  · rename_i hj; rw [hj] at h; exact child_below hr hf h
  · exact h

/-! ### a rule is its selectors -/
theorem wLt_irrefl (x : PWt) : wLt x x = false := by simp [wLt]
theorem wLt_trans {x y z : PWt} (h : wLt x y = true) (g : wLt y z = true) : wLt x z = true := by
  simp [wLt] at h g ⊢; omega
theorem wLt_total {x y : PWt} (h : wLt x y = false) (g : wLt y x = false) : x = y := by
  obtain ⟨a, b, c⟩ := x
  obtain ⟨d, e, f⟩ := y
  simp [wLt] at h g
  congr 1 <;> omega
theorem wLt_asymm {x y : PWt} (h : wLt x y = true) : wLt y x = false := by
  cases g : wLt y x with
  | false => rfl
  | true => have := wLt_trans h g; rw [wLt_irrefl] at this; cases this
/-- the greatest weight of those selectors that mean an element -/
structure IsBest (l : List PNode) (k : Int) (sels : List PSel) (r : PWt × Bool) : Prop where
  some_ : r.2 = true ↔ ∃ s ∈ sels, mMatches l k s = true
  zero : r.2 = false → r.1 = ⟨0, 0, 0⟩
  one : r.2 = true → ∃ s ∈ sels, mMatches l k s = true ∧ mWeigh s = r.1
  most : ∀ s ∈ sels, mMatches l k s = true → wLt r.1 (mWeigh s) = false
theorem best_snoc {l : List PNode} {k : Int} {xs : List PSel} {r : PWt × Bool} (h : IsBest l k xs r) (s : PSel) : IsBest l k (xs ++ [s]) (bestStep l k r s) := by
  obtain ⟨w, b⟩ := r
  unfold bestStep
  cases hm : mMatches l k s with
  | false =>
    simp only [Bool.false_and, Bool.false_eq_true, if_false]
    refine ⟨?_, h.zero, ?_, ?_⟩
    · rw [h.some_]
      constructor
      · rintro ⟨x, hx, hy⟩; exact ⟨x, by simp [hx], hy⟩
      · rintro ⟨x, hx, hy⟩
        simp only [List.mem_append, List.mem_singleton] at hx
        rcases hx with hx | rfl
        · exact ⟨x, hx, hy⟩
        · rw [hm] at hy; cases hy
    · intro hb
      obtain ⟨x, hx, hy⟩ := h.one hb
      exact ⟨x, by simp [hx], hy⟩
    · intro x hx hy
      simp only [List.mem_append, List.mem_singleton] at hx
      rcases hx with hx | rfl
      · exact h.most x hx hy
      · rw [hm] at hy; cases hy
  | true =>
    simp only [Bool.true_and]
    cases b with
    | false =>
      simp only [Bool.not_false, Bool.true_or, if_true]
      refine ⟨⟨fun _ => ⟨s, by simp, hm⟩, fun _ => rfl⟩, by simp, fun _ => ⟨s, by simp, hm, rfl⟩, ?_⟩
      intro x hx hy
      simp only [List.mem_append, List.mem_singleton] at hx
      rcases hx with hx | rfl
      · have := h.some_.2 ⟨x, hx, hy⟩; cases this
      · exact wLt_irrefl _
    | true =>
      simp only [Bool.not_true, Bool.false_or]
      cases hl : wLt w (mWeigh s) with
      | true =>
        simp only [if_true]
        refine ⟨⟨fun _ => ⟨s, by simp, hm⟩, fun _ => rfl⟩, by simp, fun _ => ⟨s, by simp, hm, rfl⟩, ?_⟩
        intro x hx hy
        simp only [List.mem_append, List.mem_singleton] at hx
        rcases hx with hx | rfl
        · have h1 := h.most x hx hy
          simp only at h1
          cases h2 : wLt (mWeigh s) (mWeigh x) with
          | false => rfl
          | true => rw [wLt_trans hl h2] at h1; cases h1
        · exact wLt_irrefl _
      | false =>
        simp only [Bool.false_eq_true, if_false]
        refine ⟨⟨fun _ => by obtain ⟨x, hx, hy⟩ := h.some_.1 rfl; exact ⟨x, by simp [hx], hy⟩, fun _ => rfl⟩, by simp, fun hb => ?_, ?_⟩
        · obtain ⟨x, hx, hy⟩ := h.one hb
          exact ⟨x, by simp [hx], hy⟩
        · intro x hx hy
          simp only [List.mem_append, List.mem_singleton] at hx
          rcases hx with hx | rfl
          · exact h.most x hx hy
          · exact hl
theorem best_fold {l : List PNode} {k : Int} : ∀ (ys xs : List PSel) (r : PWt × Bool), IsBest l k xs r → IsBest l k (xs ++ ys) (ys.foldl (bestStep l k) r)
  | [], xs, r, h => by simpa using h
  | y :: ys, xs, r, h => by
    have := best_fold ys (xs ++ [y]) _ (best_snoc h y)
    simpa using this
theorem best_is (l : List PNode) (k : Int) (sels : List PSel) : IsBest l k sels (mBest l k sels) := by
  have := best_fold (l := l) (k := k) sels [] (⟨0, 0, 0⟩, false) ⟨by simp, fun _ => rfl, by simp, by simp⟩
  rw [List.nil_append] at this
  exact this
theorem IsBest.unique {l : List PNode} {k : Int} {xs ys : List PSel} {r q : PWt × Bool} (h : IsBest l k xs r) (g : IsBest l k ys q) (hm : ∀ s, s ∈ xs ↔ s ∈ ys) : r = q := by
  obtain ⟨w, b⟩ := r
  obtain ⟨v, c⟩ := q
  have hb : b = c := by
    have : (b = true) ↔ (c = true) := by rw [h.some_, g.some_]; simp [hm]
    cases b <;> cases c <;> simp_all
  subst hb
  congr 1
  cases b with
  | false => exact (h.zero rfl).trans (g.zero rfl).symm
  | true =>
    obtain ⟨s, hs, h1, h2⟩ := h.one rfl
    obtain ⟨t, ht, g1, g2⟩ := g.one rfl
    have e1 := h.most t ((hm t).2 ht) g1
    have e2 := g.most s ((hm s).1 hs) h1
    simp only at h2 g2 e1 e2
    rw [g2] at e1
    rw [h2] at e2
    exact wLt_total e1 e2
theorem best_reverse (l : List PNode) (k : Int) (sels : List PSel) : mBest l k sels.reverse = mBest l k sels := (best_is l k _).unique (best_is l k _) (by simp)

end Go.Proofs.YtplbdlgmjehckacDoor
