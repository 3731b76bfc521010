/-
  Plain Lean, no program: what is read of a sheet hangs on what is read alone, and on the byte behind it ('Loc').
-/
import Derived.Test.YtplbdlgmjehckabShSpec
namespace Go.Proofs.Ytplbdlgmjehckab
set_option linter.unusedVariables false
set_option linter.unusedSimpArgs false

theorem then_ok {α β : Type} {r : Ans α} {k : α → Ans β} {y : β} (h : r.then k = .ok y) : ∃ x, r = .ok x ∧ k x = .ok y := by
  cases r with
  | bad f => cases h
  | ok x => exact ⟨x, rfl, h⟩
theorem then_of {α β : Type} {r : Ans α} {k : α → Ans β} {x : α} (h : r = .ok x) : r.then k = k x := by rw [h]; rfl

/-! ### two rests that look alike to whoever stops ahead of them -/
def guardCh (c : UInt8) : Bool := decide (c.toNat = 125) || decide (c.toNat = 123) || decide (c.toNat = 59) || decide (c.toNat = 44)
def free (w : B) : Prop := ∀ c ∈ w, guardCh c = false
structure Same (l m : B) : Prop where
  head : l.head? = m.head?
  word : ∀ w, free w → w.isPrefixOf l = w.isPrefixOf m

theorem Same.refl (l : B) : Same l l := ⟨rfl, fun _ _ => rfl⟩
theorem Same.cons {l m : B} (c : UInt8) (h : Same l m) : Same (c :: l) (c :: m) := by
  refine ⟨rfl, fun w hw => ?_⟩
  cases w with
  | nil => rfl
  | cons x w =>
    simp only [List.isPrefixOf]
    rw [h.word w (fun y hy => hw y (by simp [hy]))]
theorem Same.pre {l m : B} (t : B) (h : Same l m) : Same (t ++ l) (t ++ m) := by
  induction t with
  | nil => exact h
  | cons c t ih => exact ih.cons c
theorem Same.guard {c : UInt8} (hc : guardCh c = true) (l m : B) : Same (c :: l) (c :: m) := by
  refine ⟨rfl, fun w hw => ?_⟩
  cases w with
  | nil => rfl
  | cons x w =>
    have hx := hw x (by simp)
    have : (x == c) = false := by
      rw [beq_eq_false_iff_ne]; rintro rfl; rw [hc] at hx; cases hx
    simp [List.isPrefixOf, this]
theorem Same.nil {m : B} (h : Same [] m) : m = [] := by
  have := h.head
  cases m with
  | nil => rfl
  | cons c m => simp at this
theorem Same.symm {l m : B} (h : Same l m) : Same m l := ⟨h.head.symm, fun w hw => (h.word w hw).symm⟩
theorem one_prefix (c : UInt8) (l : B) : [c].isPrefixOf l = (l.head? == some c) := by
  cases l with
  | nil => rfl
  | cons x l => simp [List.isPrefixOf, Bool.beq_comm]
theorem Same.one {l m : B} (h : Same l m) (c : UInt8) : [c].isPrefixOf l = [c].isPrefixOf m := by rw [one_prefix, one_prefix, h.head]
theorem Same.isEmpty {l m : B} (h : Same l m) : l.isEmpty = m.isEmpty := by
  have := h.head
  cases l <;> cases m <;> simp_all

theorem free_of {w : B} (h : w.all (fun c => !guardCh c) = true) : free w := by
  intro c hc
  have := List.all_eq_true.1 h c hc
  simpa using this
theorem free_gap : free gapBegin := free_of (by decide)
theorem free_first : free firstWord := free_of (by decide)
theorem free_imp : free importantWord := free_of (by decide)
theorem free_media : free mediaWord := free_of (by decide)

/-! ### the shape of what is read -/
def Loc {α : Type} (P : B → Nat → Ans (α × B × Nat)) : Prop :=
  ∀ l a v l' a', P l a = .ok (v, l', a') → ∃ t, l = t ++ l' ∧ a' = a + t.length ∧ ∀ m b, Same l' m → P (t ++ m) b = .ok (v, m, b + t.length)

theorem takeWhile_same {p : UInt8 → Bool} (t : B) {l m : B} (h : l.head? = m.head?) (ht : (t ++ l).takeWhile p = t) : (t ++ m).takeWhile p = t := by
  induction t with
  | nil =>
    cases m with
    | nil => rfl
    | cons c m =>
      cases l with
      | nil => simp at h
      | cons x l =>
        simp at h; subst h
        simp only [List.nil_append, List.takeWhile_cons] at ht ⊢
        split at ht
        · cases ht
        · rename_i hp; rw [if_neg hp]
  | cons c t ih =>
    simp only [List.cons_append, List.takeWhile_cons] at ht ⊢
    split at ht
    · rename_i hp
      simp only [hp, if_true]
      congr 1
      exact ih (by simpa using ht)
    · cases ht

theorem nameLen_eq (c : UInt8) (t : B) : nameLen (c :: t) = if isLow c then ((c :: t).takeWhile isMore).length else 0 := by
  simp only [nameLen]
  split
  · rename_i h
    have : isMore c = true := by simp [isMore, h]
    simp [List.takeWhile_cons, this]; omega
  · rfl

theorem nameLen_same {t l m : B} (h : l.head? = m.head?) (hn : nameLen (t ++ l) = t.length) (ht : t ≠ []) : nameLen (t ++ m) = t.length := by
  cases t with
  | nil => exact absurd rfl ht
  | cons c t =>
    simp only [List.cons_append] at hn ⊢
    rw [nameLen_eq] at hn ⊢
    split at hn
    · rename_i hc
      simp only [hc, if_true]
      have h1 : ((c :: (t ++ l)).takeWhile isMore) = c :: t := by
        have hp : ((c :: (t ++ l)).takeWhile isMore) <+: (c :: (t ++ l)) := List.takeWhile_prefix _
        have := List.prefix_iff_eq_take.1 hp
        rw [hn] at this
        rw [this]; simp
      rw [← List.cons_append] at h1 ⊢
      rw [takeWhile_same (c :: t) h h1]
    · simp at hn

theorem name_loc : Loc sName := by
  intro l a v l' a' h
  unfold sName at h
  split at h
  · cases h
  · rename_i hn
    cases h
    have hle := nameLen_le l
    refine ⟨l.take (nameLen l), (List.take_append_drop _ _).symm, by simp; omega, fun m b hs => ?_⟩
    have hl : (l.take (nameLen l)).length = nameLen l := by simp; omega
    have : nameLen (l.take (nameLen l) ++ m) = (l.take (nameLen l)).length := by
      refine nameLen_same hs.head (by rw [List.take_append_drop, hl]) ?_
      intro h0
      rw [h0] at hl; simp at hl; omega
    unfold sName
    rw [this, hl, if_neg hn]
    simp [hl]

/-! ### gaps -/
inductive IsGap : B → Prop
  | nil : IsGap []
  | one {c : UInt8} {t : B} (h : c.toNat = 32 ∨ c.toNat = 10) (ht : IsGap t) : IsGap (c :: t)
  | note {x t : B} (h : findSub gapEnd (x ++ gapEnd) = some x.length) (ht : IsGap t) : IsGap (gapBegin ++ (x ++ gapEnd) ++ t)
theorem IsGap.app {g h : B} (hg : IsGap g) (hh : IsGap h) : IsGap (g ++ h) := by
  induction hg with
  | nil => exact hh
  | one hc _ ih => exact .one hc ih
  | note hx _ ih => rw [List.append_assoc]; exact .note hx ih

theorem findSub_take {w : B} (hw : w ≠ []) : ∀ {l : B} {e : Nat} (r : B), findSub w l = some e → findSub w (l.take (e + w.length) ++ r) = some e
  | [], e, r, h => by
    simp only [findSub] at h
    split at h
    · rename_i he; simp at he; exact absurd he hw
    · cases h
  | c :: t, e, r, h => by
    have hle := findSub_le w (c :: t) e h
    simp only [findSub] at h
    split at h
    · rename_i hp
      cases h
      have : (c :: t).take (0 + w.length) = w := by
        rw [Nat.zero_add]; exact (List.prefix_iff_eq_take.1 (List.isPrefixOf_iff_prefix.1 hp)).symm
      rw [this]
      cases w with
      | nil => exact absurd rfl hw
      | cons x w =>
        have : (x :: w).isPrefixOf (x :: w ++ r) = true := List.isPrefixOf_iff_prefix.2 (List.prefix_append _ _)
        simp only [List.cons_append, findSub] at this ⊢
        rw [if_pos this]
    · rename_i hp
      cases hf : findSub w t with
      | none => rw [hf] at h; cases h
      | some j =>
        rw [hf] at h; cases h
        have ih := findSub_take hw r hf
        have e1 : (c :: t).take (j + 1 + w.length) = c :: t.take (j + w.length) := by
          rw [show j + 1 + w.length = (j + w.length) + 1 from by omega, List.take_succ_cons]
        rw [e1]
        simp only [List.cons_append, findSub]
        rw [ih]
        have : ¬ w.isPrefixOf (c :: (t.take (j + w.length) ++ r)) = true := by
          intro hq
          apply hp
          have hq' := List.isPrefixOf_iff_prefix.1 hq
          rw [← List.cons_append, ← e1] at hq'
          have h1 : w <+: (c :: t).take (j + 1 + w.length) := List.prefix_of_prefix_length_le hq' (List.prefix_append _ _) (by simp at hle ⊢; omega)
          exact List.isPrefixOf_iff_prefix.2 (h1.trans (List.take_prefix _ _))
        rw [if_neg this]; rfl

theorem findSub_at {w : B} : ∀ {l : B} {e : Nat}, findSub w l = some e → ∃ r, l = l.take e ++ w ++ r
  | [], e, h => by
    simp only [findSub] at h
    split at h
    · rename_i he; cases h; simp at he; subst he; exact ⟨[], rfl⟩
    · cases h
  | c :: t, e, h => by
    simp only [findSub] at h
    split at h
    · rename_i hp
      cases h
      obtain ⟨r, hr⟩ := List.isPrefixOf_iff_prefix.1 hp
      exact ⟨r, by simp [hr]⟩
    · cases hf : findSub w t with
      | none => rw [hf] at h; cases h
      | some j =>
        rw [hf] at h; cases h
        obtain ⟨r, hr⟩ := findSub_at hf
        exact ⟨r, by simp only [List.take_succ_cons, List.cons_append]; rw [← hr]⟩

/-- a note at a text's beginning -/
theorem note_split {t : B} {e : Nat} (hp : gapBegin.isPrefixOf t = true) (hf : findSub gapEnd (t.drop 2) = some e) :
    ∃ x, x.length = e ∧ t = gapBegin ++ (x ++ gapEnd) ++ t.drop (2 + e + 2) ∧ findSub gapEnd (x ++ gapEnd) = some x.length := by
  obtain ⟨r, hr⟩ := List.isPrefixOf_iff_prefix.1 hp
  subst hr
  have h2 : (gapBegin ++ r).drop 2 = r := rfl
  rw [h2] at hf
  obtain ⟨r2, hr2⟩ := findSub_at hf
  have hle := findSub_le _ _ _ hf
  have hx : (r.take e).length = e := by simp [gapEnd] at hle ⊢; omega
  refine ⟨r.take e, hx, ?_, ?_⟩
  · have : (gapBegin ++ r).drop (2 + e + 2) = r2 := by
      rw [show 2 + e + 2 = 2 + (e + 2) from by omega, ← List.drop_drop, h2]
      conv => lhs; rw [hr2]
      rw [List.drop_append]
      simp [hx, gapEnd]
    rw [this, List.append_assoc, ← hr2]
  · have := findSub_take (w := gapEnd) (by simp [gapEnd]) [] hf
    rw [List.append_nil] at this
    have e1 : r.take (e + gapEnd.length) = r.take e ++ gapEnd := by
      conv => lhs; rw [hr2]
      rw [List.take_append_of_le_length (by simp [hx])]
      rw [List.take_of_length_le (by simp [hx])]
    rw [e1] at this
    rw [hx]; exact this

def stops (l : B) : Bool := !(([32] : B).isPrefixOf l) && !(([10] : B).isPrefixOf l) && !(gapBegin.isPrefixOf l)
theorem stops_same {l m : B} (h : Same l m) (hl : stops l = true) : stops m = true := by
  unfold stops at hl ⊢; rw [← h.one, ← h.one, ← h.word _ free_gap]; exact hl

/-! the same, with no count of rounds -/
theorem gaps_fuel : ∀ (n : Nat) (l : B) (a f g : Nat), l.length ≤ n → l.length < f → l.length < g → sGaps f l a = sGaps g l a := by
  intro n
  induction n with
  | zero =>
    intro l a f g hn hf hg
    obtain rfl := List.length_eq_zero_iff.1 (Nat.le_zero.1 hn)
    cases f with
    | zero => omega
    | succ f => cases g with
      | zero => omega
      | succ g => rfl
  | succ n ih =>
    intro l a f g hn hf hg
    cases f with
    | zero => omega
    | succ f =>
      cases g with
      | zero => omega
      | succ g =>
        cases l with
        | nil => rfl
        | cons c t =>
          simp only [List.length_cons] at hn hf hg
          simp only [sGaps]
          split
          · exact ih t _ f g (by omega) (by omega) (by omega)
          · split
            · split
              · rfl
              · exact ih _ _ f g (by simp; omega) (by simp; omega) (by simp; omega)
            · rfl
theorem gaps_gap {l : B} {a f : Nat} (h : l.length < f) : sGaps f l a = sGap l a := gaps_fuel l.length l a f _ (Nat.le_refl _) h (by omega)
theorem gap_nil (a : Nat) : sGap [] a = .ok ([], a) := rfl
theorem gap_cons (c : UInt8) (t : B) (a : Nat) : sGap (c :: t) a = if c.toNat = 32 ∨ c.toNat = 10 then sGap t (a + 1) else if gapBegin.isPrefixOf (c :: t) then
    match findSub gapEnd ((c :: t).drop 2) with
    | none => .bad ⟨2, a⟩
    | some e => sGap ((c :: t).drop (2 + e + 2)) (a + (2 + e + 2)) else .ok (c :: t, a) := by
  conv => lhs; unfold sGap
  simp only [List.length_cons, sGaps]
  by_cases h1 : c.toNat = 32 ∨ c.toNat = 10
  · rw [if_pos h1, if_pos h1]; have := @gaps_gap t (a + 1) (t.length + 1) (by omega); exact this
  · rw [if_neg h1, if_neg h1]
    by_cases h2 : gapBegin.isPrefixOf (c :: t) = true
    · rw [if_pos h2, if_pos h2]
      cases hf : findSub gapEnd ((c :: t).drop 2) with
      | none => rfl
      | some e => have := @gaps_gap ((c :: t).drop (2 + e + 2)) (a + (2 + e + 2)) (t.length + 1) (by rw [List.length_drop, List.length_cons]; omega); exact this
    · rw [if_neg h2, if_neg h2]
theorem gap_stop {l : B} (a : Nat) (h : stops l = true) : sGap l a = .ok (l, a) := by
  cases l with
  | nil => rfl
  | cons c t =>
    rw [gap_cons]
    unfold stops at h
    simp [one_prefix] at h
    rw [if_neg (by rintro (h1 | h1); exact h.1.1 (UInt8.toNat_inj.1 h1); exact h.1.2 (UInt8.toNat_inj.1 h1)), if_neg (by simp [h.2])]
theorem gap_note {x : B} (hx : findSub gapEnd (x ++ gapEnd) = some x.length) (l : B) (a : Nat) : sGap (gapBegin ++ (x ++ gapEnd) ++ l) a = sGap l (a + (2 + x.length + 2)) := by
  have e : gapBegin ++ (x ++ gapEnd) ++ l = 47 :: (42 :: ((x ++ gapEnd) ++ l)) := by simp [gapBegin]
  have hd : (47 :: (42 :: ((x ++ gapEnd) ++ l))).drop 2 = (x ++ gapEnd) ++ l := rfl
  have hf : findSub gapEnd ((x ++ gapEnd) ++ l) = some x.length := by
    have := findSub_take (w := gapEnd) (by simp [gapEnd]) l hx
    rw [List.take_of_length_le (by simp)] at this
    exact this
  have hdd : (47 :: (42 :: ((x ++ gapEnd) ++ l))).drop (2 + x.length + 2) = l := by
    rw [show 2 + x.length + 2 = 2 + (x.length + 2) from by omega, ← List.drop_drop, hd, List.append_assoc, List.drop_append]
    simp [gapEnd]
  rw [e, gap_cons, if_neg (by decide), if_pos (by simp [gapBegin, List.isPrefixOf]), hd, hf]
  simp only
  rw [hdd]
theorem gap_of {g : B} (hg : IsGap g) : ∀ (l : B) (a : Nat), sGap (g ++ l) a = sGap l (a + g.length) := by
  induction hg with
  | nil => intro l a; rfl
  | @one c t hc ht ih =>
    intro l a
    rw [List.cons_append, gap_cons, if_pos hc, ih]
    simp only [List.length_cons]; congr 1; omega
  | @note x t hx ht ih =>
    intro l a
    rw [List.append_assoc, gap_note hx, ih]
    congr 1; simp [gapBegin, gapEnd]; omega
theorem gap_inv : ∀ (n : Nat) (l : B) (a : Nat) (l' : B) (a' : Nat), l.length ≤ n → sGap l a = .ok (l', a') → ∃ g, IsGap g ∧ l = g ++ l' ∧ a' = a + g.length ∧ stops l' = true := by
  intro n
  induction n with
  | zero =>
    intro l a l' a' hn h
    obtain rfl := List.length_eq_zero_iff.1 (Nat.le_zero.1 hn)
    cases h
    exact ⟨[], .nil, rfl, rfl, by decide⟩
  | succ n ih =>
    intro l a l' a' hn h
    cases l with
    | nil => cases h; exact ⟨[], .nil, rfl, rfl, by decide⟩
    | cons c t =>
      rw [gap_cons] at h
      split at h
      · rename_i hc
        obtain ⟨g, h1, h2, h3, h4⟩ := ih t (a + 1) l' a' (by simp at hn; omega) h
        exact ⟨c :: g, .one hc h1, by rw [h2]; rfl, by simp [h3]; omega, h4⟩
      · rename_i hc
        split at h
        · rename_i hp
          split at h
          · cases h
          · rename_i e hf
            obtain ⟨x, hx, hsplit, hfx⟩ := note_split hp hf
            obtain ⟨g, h1, h2, h3, h4⟩ := ih _ _ l' a' (by simp at hn ⊢; omega) h
            refine ⟨gapBegin ++ (x ++ gapEnd) ++ g, .note hfx h1, ?_, ?_, h4⟩
            · conv => lhs; rw [hsplit, h2]
              simp
            · rw [h3]; simp [gapBegin, gapEnd]; omega
        · rename_i hp
          cases h
          refine ⟨[], .nil, rfl, rfl, ?_⟩
          have h1 : ¬ c = 32 := fun e => hc (.inl (by rw [e]; rfl))
          have h2 : ¬ c = 10 := fun e => hc (.inr (by rw [e]; rfl))
          unfold stops
          rw [Bool.and_eq_true, Bool.and_eq_true, one_prefix, one_prefix]
          refine ⟨⟨by simp [h1], by simp [h2]⟩, by rw [Bool.not_eq_true] at hp; rw [hp]; rfl⟩
theorem gap_loc {l l' : B} {a a' : Nat} (h : sGap l a = .ok (l', a')) : ∃ g, IsGap g ∧ l = g ++ l' ∧ a' = a + g.length ∧ stops l' = true ∧ ∀ m b, Same l' m → sGap (g ++ m) b = .ok (m, b + g.length) := by
  obtain ⟨g, h1, h2, h3, h4⟩ := gap_inv _ l a l' a' (Nat.le_refl _) h
  exact ⟨g, h1, h2, h3, h4, fun m b hs => by rw [gap_of h1, gap_stop _ (stops_same hs h4)]⟩
theorem must_loc {w l l' : B} {a a' : Nat} (h : pMust w l a = .ok (l', a')) : l = w ++ l' ∧ a' = a + w.length ∧ ∀ m b, pMust w (w ++ m) b = .ok (m, b + w.length) := by
  unfold pMust at h
  split at h
  · rename_i hp
    cases h
    obtain ⟨r, rfl⟩ := List.isPrefixOf_iff_prefix.1 hp
    refine ⟨by simp, rfl, fun m b => ?_⟩
    unfold pMust
    rw [if_pos (List.isPrefixOf_iff_prefix.2 (List.prefix_append _ _))]; simp
  · cases h
theorem prefix_split {w l : B} (h : w.isPrefixOf l = true) : ∃ r, l = w ++ r ∧ l.drop w.length = r := by
  obtain ⟨r, rfl⟩ := List.isPrefixOf_iff_prefix.1 h
  exact ⟨r, rfl, by simp⟩
theorem prefix_pos (w r : B) : w.isPrefixOf (w ++ r) = true := List.isPrefixOf_iff_prefix.2 (List.prefix_append _ _)

end Go.Proofs.Ytplbdlgmjehckab
