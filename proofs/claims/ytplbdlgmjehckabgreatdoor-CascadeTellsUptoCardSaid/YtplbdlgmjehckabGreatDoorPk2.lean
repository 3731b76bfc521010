/-
  Lemmas for the claims of this seat: the program's functions walked, and plain laws. In this order: ShLoc ShLoc2 ShSeg ShTurns ShFine.
-/
import Derived.Test.YtplbdlgmjehckabGreatDoorPk1
namespace Go.Proofs.YtplbdlgmjehckabGreatDoor
set_option linter.unusedVariables false
set_option linter.unusedSimpArgs false
theorem then_ok {α β : Type} {r : Ans α} {k : α → Ans β} {y : β} (h : r.then k = .ok y) : ∃ x, r = .ok x ∧ k x = .ok y := by
  cases r with
  | bad f => cases h
  | ok x => exact ⟨x, rfl, h⟩
theorem then_of {α β : Type} {r : Ans α} {k : α → Ans β} {x : α} (h : r = .ok x) : r.then k = k x := by rw [h]; rfl
def guardCh (c : UInt8) : Bool := decide (c.toNat = 125) || decide (c.toNat = 123) || decide (c.toNat = 59) || decide (c.toNat = 44)
def free (w : B) : Prop := ∀ c ∈ w, guardCh c = false
structure Same (l m : B) : Prop where
  head : l.head? = m.head?
  word : ∀ w, free w → w.isPrefixOf l = w.isPrefixOf m
theorem Same.refl (l : B) : Same l l := ⟨rfl, fun _ _ => rfl⟩
theorem Same.cons {l m : B} (c : UInt8) (h : Same l m) : Same (c :: l) (c :: m) := by
  refine ⟨rfl, fun w hw => ?_⟩
  cases w with
  | nil => rfl
  | cons x w =>
    simp only [List.isPrefixOf]
    rw [h.word w (fun y hy => hw y (by simp [hy]))]
theorem Same.pre {l m : B} (t : B) (h : Same l m) : Same (t ++ l) (t ++ m) := by
  induction t with
  | nil => exact h
  | cons c t ih => exact ih.cons c
theorem Same.guard {c : UInt8} (hc : guardCh c = true) (l m : B) : Same (c :: l) (c :: m) := by
  refine ⟨rfl, fun w hw => ?_⟩
  cases w with
  | nil => rfl
  | cons x w =>
    have hx := hw x (by simp)
    have : (x == c) = false := by
      rw [beq_eq_false_iff_ne]; rintro rfl; rw [hc] at hx; cases hx
    simp [List.isPrefixOf, this]
theorem Same.nil {m : B} (h : Same [] m) : m = [] := by
  have := h.head
  cases m with
  | nil => rfl
  | cons c m => simp at this
theorem Same.symm {l m : B} (h : Same l m) : Same m l := ⟨h.head.symm, fun w hw => (h.word w hw).symm⟩
theorem one_prefix (c : UInt8) (l : B) : [c].isPrefixOf l = (l.head? == some c) := by
  cases l with
  | nil => rfl
  | cons x l => simp [List.isPrefixOf, Bool.beq_comm]
theorem Same.one {l m : B} (h : Same l m) (c : UInt8) : [c].isPrefixOf l = [c].isPrefixOf m := by rw [one_prefix, one_prefix, h.head]
theorem Same.isEmpty {l m : B} (h : Same l m) : l.isEmpty = m.isEmpty := by
  have := h.head
  cases l <;> cases m <;> simp_all
theorem free_of {w : B} (h : w.all (fun c => !guardCh c) = true) : free w := by
  intro c hc
  have := List.all_eq_true.1 h c hc
  simpa using this
theorem free_gap : free gapBegin := free_of (by decide)
def Loc {α : Type} (P : B → Nat → Ans (α × B × Nat)) : Prop :=
  ∀ l a v l' a', P l a = .ok (v, l', a') → ∃ t, l = t ++ l' ∧ a' = a + t.length ∧ ∀ m b, Same l' m → P (t ++ m) b = .ok (v, m, b + t.length)
theorem takeWhile_same {p : UInt8 → Bool} (t : B) {l m : B} (h : l.head? = m.head?) (ht : (t ++ l).takeWhile p = t) : (t ++ m).takeWhile p = t := by
  induction t with
  | nil =>
    cases m with
    | nil => rfl
    | cons c m =>
      cases l with
      | nil => simp at h
      | cons x l =>
        simp at h; subst h
        simp only [List.nil_append, List.takeWhile_cons] at ht ⊢
        split at ht
        · cases ht
        · rename_i hp; rw [if_neg hp]
  | cons c t ih =>
    simp only [List.cons_append, List.takeWhile_cons] at ht ⊢
    split at ht
    · rename_i hp
      simp only [hp, if_true]
      congr 1
      exact ih (by simpa using ht)
    · cases ht
theorem nameLen_eq (c : UInt8) (t : B) : nameLen (c :: t) = if isLow c then ((c :: t).takeWhile isMore).length else 0 := by
  simp only [nameLen]
  split
  · rename_i h
    have : isMore c = true := by simp [isMore, h]
    simp [List.takeWhile_cons, this]; omega
  · rfl
theorem nameLen_same {t l m : B} (h : l.head? = m.head?) (hn : nameLen (t ++ l) = t.length) (ht : t ≠ []) : nameLen (t ++ m) = t.length := by
  cases t with
  | nil => exact absurd rfl ht
  | cons c t =>
    simp only [List.cons_append] at hn ⊢
    rw [nameLen_eq] at hn ⊢
    split at hn
    · rename_i hc
      simp only [hc, if_true]
      have h1 : ((c :: (t ++ l)).takeWhile isMore) = c :: t := by
        have hp : ((c :: (t ++ l)).takeWhile isMore) <+: (c :: (t ++ l)) := List.takeWhile_prefix _
        have := List.prefix_iff_eq_take.1 hp
        rw [hn] at this
        rw [this]; simp
      rw [← List.cons_append] at h1 ⊢
      rw [takeWhile_same (c :: t) h h1]
    · simp at hn
theorem name_loc : Loc sName := by
  intro l a v l' a' h
  unfold sName at h
  split at h
  · cases h
  · rename_i hn
    cases h
    have hle := nameLen_le l
    refine ⟨l.take (nameLen l), (List.take_append_drop _ _).symm, by simp; omega, fun m b hs => ?_⟩
    have hl : (l.take (nameLen l)).length = nameLen l := by simp; omega
    have : nameLen (l.take (nameLen l) ++ m) = (l.take (nameLen l)).length := by
      refine nameLen_same hs.head (by rw [List.take_append_drop, hl]) ?_
      intro h0
      rw [h0] at hl; simp at hl; omega
    unfold sName
    rw [this, hl, if_neg hn]
    simp [hl]
inductive IsGap : B → Prop
  | nil : IsGap []
  | one {c : UInt8} {t : B} (h : c.toNat = 32 ∨ c.toNat = 10) (ht : IsGap t) : IsGap (c :: t)
  | note {x t : B} (h : findSub gapEnd (x ++ gapEnd) = some x.length) (ht : IsGap t) : IsGap (gapBegin ++ (x ++ gapEnd) ++ t)
theorem findSub_take {w : B} (hw : w ≠ []) : ∀ {l : B} {e : Nat} (r : B), findSub w l = some e → findSub w (l.take (e + w.length) ++ r) = some e
  | [], e, r, h => by
    simp only [findSub] at h
    split at h
    · rename_i he; simp at he; exact absurd he hw
    · cases h
  | c :: t, e, r, h => by
    have hle := findSub_le w (c :: t) e h
    simp only [findSub] at h
    split at h
    · rename_i hp
      cases h
      have : (c :: t).take (0 + w.length) = w := by
        rw [Nat.zero_add]; exact (List.prefix_iff_eq_take.1 (List.isPrefixOf_iff_prefix.1 hp)).symm
      rw [this]
      cases w with
      | nil => exact absurd rfl hw
      | cons x w =>
        have : (x :: w).isPrefixOf (x :: w ++ r) = true := List.isPrefixOf_iff_prefix.2 (List.prefix_append _ _)
        simp only [List.cons_append, findSub] at this ⊢
        rw [if_pos this]
    · rename_i hp
      cases hf : findSub w t with
      | none => rw [hf] at h; cases h
      | some j =>
        rw [hf] at h; cases h
        have ih := findSub_take hw r hf
        have e1 : (c :: t).take (j + 1 + w.length) = c :: t.take (j + w.length) := by
          rw [show j + 1 + w.length = (j + w.length) + 1 from by omega, List.take_succ_cons]
        rw [e1]
        simp only [List.cons_append, findSub]
        rw [ih]
        have : ¬ w.isPrefixOf (c :: (t.take (j + w.length) ++ r)) = true := by
          intro hq
          apply hp
          have hq' := List.isPrefixOf_iff_prefix.1 hq
          rw [← List.cons_append, ← e1] at hq'
          have h1 : w <+: (c :: t).take (j + 1 + w.length) := List.prefix_of_prefix_length_le hq' (List.prefix_append _ _) (by simp at hle ⊢; omega)
          exact List.isPrefixOf_iff_prefix.2 (h1.trans (List.take_prefix _ _))
        rw [if_neg this]; rfl
theorem findSub_at {w : B} : ∀ {l : B} {e : Nat}, findSub w l = some e → ∃ r, l = l.take e ++ w ++ r
  | [], e, h => by
    simp only [findSub] at h
    split at h
    · rename_i he; cases h; simp at he; subst he; exact ⟨[], rfl⟩
    · cases h
  | c :: t, e, h => by
    simp only [findSub] at h
    split at h
    · rename_i hp
      cases h
      obtain ⟨r, hr⟩ := List.isPrefixOf_iff_prefix.1 hp
      exact ⟨r, by simp [hr]⟩
    · cases hf : findSub w t with
      | none => rw [hf] at h; cases h
      | some j =>
        rw [hf] at h; cases h
        obtain ⟨r, hr⟩ := findSub_at hf
        exact ⟨r, by simp only [List.take_succ_cons, List.cons_append]; rw [← hr]⟩
theorem note_split {t : B} {e : Nat} (hp : gapBegin.isPrefixOf t = true) (hf : findSub gapEnd (t.drop 2) = some e) :
    ∃ x, x.length = e ∧ t = gapBegin ++ (x ++ gapEnd) ++ t.drop (2 + e + 2) ∧ findSub gapEnd (x ++ gapEnd) = some x.length := by
  obtain ⟨r, hr⟩ := List.isPrefixOf_iff_prefix.1 hp
  subst hr
  have h2 : (gapBegin ++ r).drop 2 = r := rfl
  rw [h2] at hf
  obtain ⟨r2, hr2⟩ := findSub_at hf
  have hle := findSub_le _ _ _ hf
  have hx : (r.take e).length = e := by simp [gapEnd] at hle ⊢; omega
  refine ⟨r.take e, hx, ?_, ?_⟩
  · have : (gapBegin ++ r).drop (2 + e + 2) = r2 := by
      rw [show 2 + e + 2 = 2 + (e + 2) from by omega, ← List.drop_drop, h2]
      conv => lhs; rw [hr2]
      rw [List.drop_append]
      simp [hx, gapEnd]
    rw [this, List.append_assoc, ← hr2]
  · have := findSub_take (w := gapEnd) (by simp [gapEnd]) [] hf
    rw [List.append_nil] at this
    have e1 : r.take (e + gapEnd.length) = r.take e ++ gapEnd := by
      conv => lhs; rw [hr2]
      rw [List.take_append_of_le_length (by simp [hx])]
      rw [List.take_of_length_le (by simp [hx])]
    rw [e1] at this
    rw [hx]; exact this
def stops (l : B) : Bool := !(([32] : B).isPrefixOf l) && !(([10] : B).isPrefixOf l) && !(gapBegin.isPrefixOf l)
theorem stops_same {l m : B} (h : Same l m) (hl : stops l = true) : stops m = true := by
  unfold stops at hl ⊢; rw [← h.one, ← h.one, ← h.word _ free_gap]; exact hl
theorem gaps_fuel : ∀ (n : Nat) (l : B) (a f g : Nat), l.length ≤ n → l.length < f → l.length < g → sGaps f l a = sGaps g l a := by
  intro n
  induction n with
  | zero =>
    intro l a f g hn hf hg
    obtain rfl := List.length_eq_zero_iff.1 (Nat.le_zero.1 hn)
    cases f with
    | zero => omega
    | succ f => cases g with
      | zero => omega
      | succ g => rfl
  | succ n ih =>
    intro l a f g hn hf hg
    cases f with
    | zero => omega
    | succ f =>
      cases g with
      | zero => omega
      | succ g =>
        cases l with
        | nil => rfl
        | cons c t =>
          simp only [List.length_cons] at hn hf hg
          simp only [sGaps]
          split
          · exact ih t _ f g (by omega) (by omega) (by omega)
          · split
            · split
              · rfl
              · exact ih _ _ f g (by simp; omega) (by simp; omega) (by simp; omega)
            · rfl
theorem gaps_gap {l : B} {a f : Nat} (h : l.length < f) : sGaps f l a = sGap l a := gaps_fuel l.length l a f _ (Nat.le_refl _) h (by omega)
theorem gap_cons (c : UInt8) (t : B) (a : Nat) : sGap (c :: t) a = if c.toNat = 32 ∨ c.toNat = 10 then sGap t (a + 1) else if gapBegin.isPrefixOf (c :: t) then
    match findSub gapEnd ((c :: t).drop 2) with
    | none => .bad ⟨2, a⟩
    | some e => sGap ((c :: t).drop (2 + e + 2)) (a + (2 + e + 2)) else .ok (c :: t, a) := by
  conv => lhs; unfold sGap
  simp only [List.length_cons, sGaps]
  by_cases h1 : c.toNat = 32 ∨ c.toNat = 10
  · rw [if_pos h1, if_pos h1]; have := @gaps_gap t (a + 1) (t.length + 1) (by omega); exact this
  · rw [if_neg h1, if_neg h1]
    by_cases h2 : gapBegin.isPrefixOf (c :: t) = true
    · rw [if_pos h2, if_pos h2]
      cases hf : findSub gapEnd ((c :: t).drop 2) with
      | none => rfl
      | some e => have := @gaps_gap ((c :: t).drop (2 + e + 2)) (a + (2 + e + 2)) (t.length + 1) (by rw [List.length_drop, List.length_cons]; omega); exact this
    · rw [if_neg h2, if_neg h2]
theorem gap_stop {l : B} (a : Nat) (h : stops l = true) : sGap l a = .ok (l, a) := by
  cases l with
  | nil => rfl
  | cons c t =>
    rw [gap_cons]
    unfold stops at h
    simp [one_prefix] at h
    rw [if_neg (by rintro (h1 | h1); exact h.1.1 (UInt8.toNat_inj.1 h1); exact h.1.2 (UInt8.toNat_inj.1 h1)), if_neg (by simp [h.2])]
theorem gap_note {x : B} (hx : findSub gapEnd (x ++ gapEnd) = some x.length) (l : B) (a : Nat) : sGap (gapBegin ++ (x ++ gapEnd) ++ l) a = sGap l (a + (2 + x.length + 2)) := by
  have e : gapBegin ++ (x ++ gapEnd) ++ l = 47 :: (42 :: ((x ++ gapEnd) ++ l)) := by simp [gapBegin]
  have hd : (47 :: (42 :: ((x ++ gapEnd) ++ l))).drop 2 = (x ++ gapEnd) ++ l := rfl
  have hf : findSub gapEnd ((x ++ gapEnd) ++ l) = some x.length := by
    have := findSub_take (w := gapEnd) (by simp [gapEnd]) l hx
    rw [List.take_of_length_le (by simp)] at this
    exact this
  have hdd : (47 :: (42 :: ((x ++ gapEnd) ++ l))).drop (2 + x.length + 2) = l := by
    rw [show 2 + x.length + 2 = 2 + (x.length + 2) from by omega, ← List.drop_drop, hd, List.append_assoc, List.drop_append]
    simp [gapEnd]
  rw [e, gap_cons, if_neg (by decide), if_pos (by simp [gapBegin, List.isPrefixOf]), hd, hf]
  simp only
  rw [hdd]
theorem gap_of {g : B} (hg : IsGap g) : ∀ (l : B) (a : Nat), sGap (g ++ l) a = sGap l (a + g.length) := by
  induction hg with
  | nil => intro l a; rfl
  | @one c t hc ht ih =>
    intro l a
    rw [List.cons_append, gap_cons, if_pos hc, ih]
    simp only [List.length_cons]; congr 1; omega
  | @note x t hx ht ih =>
    intro l a
    rw [List.append_assoc, gap_note hx, ih]
    congr 1; simp [gapBegin, gapEnd]; omega
theorem gap_inv : ∀ (n : Nat) (l : B) (a : Nat) (l' : B) (a' : Nat), l.length ≤ n → sGap l a = .ok (l', a') → ∃ g, IsGap g ∧ l = g ++ l' ∧ a' = a + g.length ∧ stops l' = true := by
  intro n
  induction n with
  | zero =>
    intro l a l' a' hn h
    obtain rfl := List.length_eq_zero_iff.1 (Nat.le_zero.1 hn)
    cases h
    exact ⟨[], .nil, rfl, rfl, by decide⟩
  | succ n ih =>
    intro l a l' a' hn h
    cases l with
    | nil => cases h; exact ⟨[], .nil, rfl, rfl, by decide⟩
    | cons c t =>
      rw [gap_cons] at h
      split at h
      · rename_i hc
        obtain ⟨g, h1, h2, h3, h4⟩ := ih t (a + 1) l' a' (by simp at hn; omega) h
        exact ⟨c :: g, .one hc h1, by rw [h2]; rfl, by simp [h3]; omega, h4⟩
      · rename_i hc
        split at h
        · rename_i hp
          split at h
          · cases h
          · rename_i e hf
            obtain ⟨x, hx, hsplit, hfx⟩ := note_split hp hf
            obtain ⟨g, h1, h2, h3, h4⟩ := ih _ _ l' a' (by simp at hn ⊢; omega) h
            refine ⟨gapBegin ++ (x ++ gapEnd) ++ g, .note hfx h1, ?_, ?_, h4⟩
            · conv => lhs; rw [hsplit, h2]
              simp
            · rw [h3]; simp [gapBegin, gapEnd]; omega
        · rename_i hp
          cases h
          refine ⟨[], .nil, rfl, rfl, ?_⟩
          have h1 : ¬ c = 32 := fun e => hc (.inl (by rw [e]; rfl))
          have h2 : ¬ c = 10 := fun e => hc (.inr (by rw [e]; rfl))
          unfold stops
          rw [Bool.and_eq_true, Bool.and_eq_true, one_prefix, one_prefix]
          refine ⟨⟨by simp [h1], by simp [h2]⟩, by rw [Bool.not_eq_true] at hp; rw [hp]; rfl⟩
theorem gap_loc {l l' : B} {a a' : Nat} (h : sGap l a = .ok (l', a')) : ∃ g, IsGap g ∧ l = g ++ l' ∧ a' = a + g.length ∧ stops l' = true ∧ ∀ m b, Same l' m → sGap (g ++ m) b = .ok (m, b + g.length) := by
  obtain ⟨g, h1, h2, h3, h4⟩ := gap_inv _ l a l' a' (Nat.le_refl _) h
  exact ⟨g, h1, h2, h3, h4, fun m b hs => by rw [gap_of h1, gap_stop _ (stops_same hs h4)]⟩
theorem must_loc {w l l' : B} {a a' : Nat} (h : pMust w l a = .ok (l', a')) : l = w ++ l' ∧ a' = a + w.length ∧ ∀ m b, pMust w (w ++ m) b = .ok (m, b + w.length) := by
  unfold pMust at h
  split at h
  · rename_i hp
    cases h
    obtain ⟨r, rfl⟩ := List.isPrefixOf_iff_prefix.1 hp
    refine ⟨by simp, rfl, fun m b => ?_⟩
    unfold pMust
    rw [if_pos (List.isPrefixOf_iff_prefix.2 (List.prefix_append _ _))]; simp
  · cases h
theorem prefix_split {w l : B} (h : w.isPrefixOf l = true) : ∃ r, l = w ++ r ∧ l.drop w.length = r := by
  obtain ⟨r, rfl⟩ := List.isPrefixOf_iff_prefix.1 h
  exact ⟨r, rfl, by simp⟩
theorem prefix_pos (w r : B) : w.isPrefixOf (w ++ r) = true := List.isPrefixOf_iff_prefix.2 (List.prefix_append _ _)
end Go.Proofs.YtplbdlgmjehckabGreatDoor

namespace Go.Proofs.YtplbdlgmjehckabGreatDoor
set_option linter.unusedVariables false
set_option linter.unusedSimpArgs false
theorem name_pos {l l' v : B} {a a' : Nat} (h : sName l a = .ok (v, l', a')) : 0 < v.length ∧ l = v ++ l' ∧ a' = a + v.length ∧ v.length ≤ 20 ∧ nameLen l = v.length := by
  unfold sName at h
  split at h
  · cases h
  · rename_i hn
    cases h
    have hle := nameLen_le l
    have : (l.take (nameLen l)).length = nameLen l := by simp; omega
    exact ⟨by omega, (List.take_append_drop _ _).symm, by omega, by omega, this.symm⟩
theorem valL_loc : ∀ (f : Nat) (ws : List B) (l : B) (a : Nat) (v : B) (l' : B) (a' : Nat), sValL f ws l a = .ok (v, l', a') →
    ∃ t, l = t ++ l' ∧ a' = a + t.length ∧ ∀ (g : Nat) (m : B) (b : Nat), t.length < g → Same l' m → sValL g ws (t ++ m) b = .ok (v, m, b + t.length) := by
  intro f
  induction f with
  | zero => intro ps l a v l' a' h; cases h
  | succ f ih =>
    intro ws l a v l' a' h
    rw [sValL] at h
    simp only at h
    split at h
    · rename_i hw
      split at h
      · cases h
      · rename_i hws
        cases h
        refine ⟨[], rfl, rfl, fun g m b hg hs => ?_⟩
        cases g with
        | zero => simp at hg
        | succ g =>
          rw [sValL]
          simp only
          have : ([] ++ m).takeWhile isWord = [] := takeWhile_same [] hs.head (by simpa using hw)
          rw [this, if_pos rfl, if_neg hws]; rfl
    · rename_i hw
      split at h
      · cases h
      · rename_i hlen
        obtain ⟨⟨l1, a1⟩, h1, h⟩ := then_ok h
        obtain ⟨t1, g1, hl1, rfl, st1, k1⟩ := gap_loc h1
        obtain ⟨t2, rfl, rfl, k2⟩ := ih _ _ _ _ _ _ h
        have hsplit : l = l.takeWhile isWord ++ (t1 ++ (t2 ++ l')) := by
          have hp : l = l.takeWhile isWord ++ l.drop (l.takeWhile isWord).length := by
            conv => lhs; rw [← List.take_append_drop (l.takeWhile isWord).length l]
            rw [takeWhile_take]
          rw [hl1] at hp; exact hp
        obtain ⟨w, hwd⟩ : ∃ w, w = l.takeWhile isWord := ⟨_, rfl⟩
        rw [← hwd] at hsplit hw hlen h h1 k2 ⊢
        subst hsplit
        have hpos : 0 < w.length := List.length_pos_iff.2 hw
        refine ⟨w ++ (t1 ++ t2), by simp, by simp; omega, fun g m b hg hs => ?_⟩
        cases g with
        | zero => simp at hg
        | succ g =>
          rw [sValL]
          simp only
          have hsame : Same (t1 ++ (t2 ++ l')) (t1 ++ (t2 ++ m)) := (hs.pre t2).pre t1
          have e0 : (w ++ (t1 ++ t2)) ++ m = w ++ (t1 ++ (t2 ++ m)) := by simp
          have : (w ++ (t1 ++ (t2 ++ m))).takeWhile isWord = w := takeWhile_same w hsame.head hwd.symm
          rw [e0, this, if_neg hw, if_neg hlen]
          have hd : (w ++ (t1 ++ (t2 ++ m))).drop w.length = t1 ++ (t2 ++ m) := by simp
          rw [hd, then_of (k1 _ _ (hs.pre t2))]
          simp only
          rw [k2 g m _ (by simp at hg; omega) hs]
          simp; omega
theorem val_loc : Loc sVal := by
  intro l a v l' a' h
  unfold sVal at h
  obtain ⟨t, h1, h2, k⟩ := valL_loc _ _ _ _ _ _ _ h
  exact ⟨t, h1, h2, fun m b hs => by unfold sVal; exact k _ m b (by simp; omega) hs⟩
theorem strong_loc : Loc sStrong := by
  intro l a v l' a' h
  unfold sStrong at h
  split at h
  · rename_i hp
    obtain ⟨r, rfl, hd⟩ := prefix_split hp
    rw [show ([33] : B).length = 1 from rfl] at hd
    rw [hd] at h
    obtain ⟨⟨l1, a1⟩, h1, h⟩ := then_ok h
    obtain ⟨rfl, rfl, k1⟩ := must_loc h1
    obtain ⟨⟨l2, a2⟩, h2, h⟩ := then_ok h
    obtain ⟨t2, g2, rfl, rfl, st2, k2⟩ := gap_loc h2
    cases h
    refine ⟨[33] ++ (importantWord ++ t2), by simp, by simp; omega, fun m b hs => ?_⟩
    unfold sStrong
    rw [show ([33] ++ (importantWord ++ t2)) ++ m = [33] ++ (importantWord ++ (t2 ++ m)) from by simp, if_pos (prefix_pos _ _)]
    have hd2 : ([33] ++ (importantWord ++ (t2 ++ m))).drop 1 = importantWord ++ (t2 ++ m) := rfl
    rw [hd2, then_of (k1 _ _)]
    simp only
    rw [then_of (k2 _ _ hs)]
    simp; omega
  · rename_i hp
    cases h
    refine ⟨[], rfl, rfl, fun m b hs => ?_⟩
    unfold sStrong
    rw [List.nil_append, ← hs.one, if_neg hp]; rfl
theorem decl_loc : Loc sDecl ∧ ∀ l a v l' a', sDecl l a = .ok (v, l', a') → a < a' := by
  have main : ∀ l a v l' a', sDecl l a = .ok (v, l', a') → ∃ t, l = t ++ l' ∧ a' = a + t.length ∧ 0 < t.length ∧ ∀ m b, Same l' m → sDecl (t ++ m) b = .ok (v, m, b + t.length) := by
    intro l a v l' a' h
    unfold sDecl at h
    obtain ⟨⟨nm, l1, a1⟩, h1, h⟩ := then_ok h
    obtain ⟨hpos, _, hna, _, _⟩ := name_pos h1
    obtain ⟨t1, rfl, hta, k1⟩ := name_loc _ _ _ _ _ h1
    have ht1 : t1.length = nm.length := by omega
    subst hta
    obtain ⟨⟨l2, a2⟩, h2, h⟩ := then_ok h
    obtain ⟨t2, g2, rfl, rfl, st2, k2⟩ := gap_loc h2
    obtain ⟨⟨l3, a3⟩, h3, h⟩ := then_ok h
    obtain ⟨rfl, rfl, k3⟩ := must_loc h3
    obtain ⟨⟨l4, a4⟩, h4, h⟩ := then_ok h
    obtain ⟨t4, g4, rfl, rfl, st4, k4⟩ := gap_loc h4
    obtain ⟨⟨v5, l5, a5⟩, h5, h⟩ := then_ok h
    obtain ⟨t5, rfl, rfl, k5⟩ := val_loc _ _ _ _ _ h5
    obtain ⟨⟨v6, l6, a6⟩, h6, h⟩ := then_ok h
    obtain ⟨t6, rfl, rfl, k6⟩ := strong_loc _ _ _ _ _ h6
    cases h
    refine ⟨t1 ++ (t2 ++ ([58] ++ (t4 ++ (t5 ++ t6)))), by simp, by simp; omega, by simp; omega, fun m b hs => ?_⟩
    unfold sDecl
    rw [show (t1 ++ (t2 ++ ([58] ++ (t4 ++ (t5 ++ t6))))) ++ m = t1 ++ (t2 ++ ([58] ++ (t4 ++ (t5 ++ (t6 ++ m))))) from by simp]
    rw [then_of (k1 _ b (((((hs.pre t6).pre t5).pre t4).pre [58]).pre t2))]
    simp only
    rw [then_of (k2 _ _ ((((hs.pre t6).pre t5).pre t4).pre [58]))]
    simp only
    rw [then_of (k3 _ _)]
    simp only
    rw [then_of (k4 _ _ ((hs.pre t6).pre t5))]
    simp only
    rw [then_of (k5 _ _ (hs.pre t6))]
    simp only
    rw [then_of (k6 _ _ hs)]
    simp; omega
  exact ⟨fun l a v l' a' h => by obtain ⟨t, h1, h2, _, h3⟩ := main l a v l' a' h; exact ⟨t, h1, h2, h3⟩,
    fun l a v l' a' h => by obtain ⟨t, h1, h2, h3, _⟩ := main l a v l' a' h; omega⟩
end Go.Proofs.YtplbdlgmjehckabGreatDoor

namespace Go.Proofs.YtplbdlgmjehckabGreatDoor
set_option linter.unusedVariables false
set_option linter.unusedSimpArgs false
def headCh (c : UInt8) : Bool := isLow c || decide (c.toNat = 42) || decide (c.toNat = 46) || decide (c.toNat = 35) || decide (c.toNat = 58) || decide (c.toNat = 91)
theorem prefix_head {x c : UInt8} {w t : B} (h : (x :: w).isPrefixOf (c :: t) = true) : x = c := by
  simp [List.isPrefixOf] at h; exact h.1
theorem stops_cons {c : UInt8} (t : B) (h : c.toNat ≠ 32 ∧ c.toNat ≠ 10 ∧ c.toNat ≠ 47) : stops (c :: t) = true := by
  have h1 : ¬ c = 32 := fun e => h.1 (by rw [e]; rfl)
  have h2 : ¬ c = 10 := fun e => h.2.1 (by rw [e]; rfl)
  have h3 : ¬ c = 47 := fun e => h.2.2 (by rw [e]; rfl)
  unfold stops
  rw [one_prefix, one_prefix]
  have : gapBegin.isPrefixOf (c :: t) = false := by
    rw [← Bool.not_eq_true]; intro hp; exact h3 (prefix_head hp).symm
  rw [this]; simp [h1, h2]
structure RuleT (t : B) (ss : List PSel) (ds : List PDecl) : Prop where
  read : ∀ (md m : B) (b : Nat), sRule md (t ++ m) b = .ok (⟨md, ss, ds, (b : Int), ((b + t.length : Nat) : Int)⟩, m, b + t.length)
  head : ∃ c u, t = c :: u ∧ headCh c = true
structure HeadT (nm h : B) : Prop where
  read : ∀ (m : B) (b : Nat), sMediaHead (h ++ m) b = .ok (nm, m, b + h.length)
  name : nm ≠ []
inductive In1 where
  | gap (g : B)
  | rule (t : B) (ss : List PSel) (ds : List PDecl)
inductive It where
  | plain (x : In1)
  | media (nm h : B) (xs : List In1)
def In1.text : In1 → B
  | .gap g => g
  | .rule t _ _ => t
def In1.wf : In1 → Prop
  | .gap g => IsGap g
  | .rule t ss ds => RuleT t ss ds
def textIn : List In1 → B
  | [] => []
  | x :: xs => x.text ++ textIn xs
def It.text : It → B
  | .plain x => x.text
  | .media _ h xs => mediaWord ++ (h ++ (textIn xs ++ [125]))
def It.wf : It → Prop
  | .plain x => x.wf
  | .media nm h xs => HeadT nm h ∧ ∀ x ∈ xs, x.wf
def textIt : List It → B
  | [] => []
  | x :: xs => x.text ++ textIt xs
def rulesIn (md : B) : Nat → List In1 → List PRule
  | _, [] => []
  | b, .gap g :: xs => rulesIn md (b + g.length) xs
  | b, .rule t ss ds :: xs => ⟨md, ss, ds, (b : Int), ((b + t.length : Nat) : Int)⟩ :: rulesIn md (b + t.length) xs
def rulesIt : Nat → List It → List PRule
  | _, [] => []
  | b, .plain x :: xs => rulesIn [] b [x] ++ rulesIt (b + x.text.length) xs
  | b, .media nm h ys :: xs => rulesIn nm (b + 6 + h.length) ys ++ rulesIt (b + (It.media nm h ys).text.length) xs
def endsHere (m : B) : Bool := m.isEmpty || ([125] : B).isPrefixOf m
def rulesFrom (g : Nat) (md : B) (rs : List PRule) (l : B) (b : Nat) : Ans (List PRule × B × Nat) := (sGap l b).then fun x => sRulesL g md rs x.1 x.2
end Go.Proofs.YtplbdlgmjehckabGreatDoor

namespace Go.Proofs.YtplbdlgmjehckabGreatDoor
set_option linter.unusedVariables false
set_option linter.unusedSimpArgs false
def NameOk (nm : B) : Prop := nameLen nm = nm.length ∧ 1 ≤ nm.length ∧ nm.length ≤ 20
def WordOk (w : B) : Prop := w ≠ [] ∧ ∀ c ∈ w, isWord c = true
def ValOk (v : B) : Prop := ∃ ws : List B, ws ≠ [] ∧ (∀ w ∈ ws, WordOk w) ∧ v = joinW ws ∧ v.length ≤ 60
def DeclOk (d : PDecl) : Prop := NameOk d.name ∧ ValOk d.val
theorem takeWhile_self {p : UInt8 → Bool} {w : B} (hw : ∀ c ∈ w, p c = true) : w.takeWhile p = w := by
  induction w with
  | nil => rfl
  | cons c w ih => rw [List.takeWhile_cons, if_pos (hw c (by simp)), ih (fun x hx => hw x (by simp [hx]))]
theorem nameLen_own {l : B} : nameLen (l.take (nameLen l)) = nameLen l := by
  cases l with
  | nil => rfl
  | cons c t =>
    rw [nameLen_eq]
    split
    · rename_i hc
      have hm : isMore c = true := by simp [isMore, hc]
      rw [takeWhile_take, List.takeWhile_cons, if_pos hm, nameLen_eq, if_pos hc]
      have : (c :: t.takeWhile isMore).takeWhile isMore = c :: t.takeWhile isMore := by
        rw [List.takeWhile_cons, if_pos hm]
        congr 1
        exact takeWhile_self (fun x hx => List.all_eq_true.1 (List.all_takeWhile (p := isMore) (l := t)) x hx)
      rw [this]
    · simp [nameLen]
theorem name_ok_of {l nm l' : B} {a a' : Nat} (h : sName l a = .ok (nm, l', a')) : NameOk nm := by
  obtain ⟨h1, h2, h3, h4, h5⟩ := name_pos h
  refine ⟨?_, h1, h4⟩
  have : nm = l.take (nameLen l) := by rw [h5]; rw [h2]; simp
  rw [this, nameLen_own, ← this, h5]
theorem val_ok_of : ∀ (f : Nat) (ws : List B) (l : B) (a : Nat) (v l' : B) (a' : Nat), (∀ w ∈ ws, WordOk w) → (joinW ws).length ≤ 60 → sValL f ws l a = .ok (v, l', a') → ValOk v := by
  intro f
  induction f with
  | zero => intro ws l a v l' a' _ _ h; cases h
  | succ f ih =>
    intro ws l a v l' a' hw hl h
    rw [sValL] at h
    simp only at h
    split at h
    · split at h
      · cases h
      · rename_i hne
        cases h
        exact ⟨ws, hne, hw, rfl, hl⟩
    · rename_i hne
      split at h
      · cases h
      · rename_i hle
        obtain ⟨⟨l1, a1⟩, h1, h⟩ := then_ok h
        refine ih _ _ _ _ _ _ ?_ (by omega) h
        intro w hx
        simp only [List.mem_append, List.mem_singleton] at hx
        rcases hx with hx | rfl
        · exact hw w hx
        · exact ⟨hne, fun c hc => List.all_eq_true.1 (List.all_takeWhile (p := isWord) (l := l)) c hc⟩
theorem decl_ok_of {l l' : B} {a a' : Nat} {d : PDecl} (h : sDecl l a = .ok (d, l', a')) : DeclOk d := by
  unfold sDecl at h
  obtain ⟨⟨nm, l1, a1⟩, h1, h⟩ := then_ok h
  obtain ⟨⟨l2, a2⟩, h2, h⟩ := then_ok h
  obtain ⟨⟨l3, a3⟩, h3, h⟩ := then_ok h
  obtain ⟨⟨l4, a4⟩, h4, h⟩ := then_ok h
  obtain ⟨⟨v5, l5, a5⟩, h5, h⟩ := then_ok h
  obtain ⟨⟨v6, l6, a6⟩, h6, h⟩ := then_ok h
  cases h
  exact ⟨name_ok_of h1, val_ok_of _ [] _ _ _ _ _ (by simp) (by simp [joinW]) h5⟩
theorem declsL_ok_of : ∀ (f : Nat) (ds : List PDecl) (l : B) (a : Nat) (v : List PDecl) (l' : B) (a' : Nat), (∀ d ∈ ds, DeclOk d) → ds.length ≤ 20 → sDeclsL f ds l a = .ok (v, l', a') →
    (∀ d ∈ v, DeclOk d) ∧ v.length ≤ 20 := by
  intro f
  induction f with
  | zero => intro ds l a v l' a' _ _ h; cases h
  | succ f ih =>
    intro ds l a v l' a' hd hn h
    rw [sDeclsL] at h
    split at h
    · cases h; exact ⟨hd, hn⟩
    · split at h
      · cases h
      · rename_i hne
        obtain ⟨⟨d, l1, a1⟩, h1, h⟩ := then_ok h
        have hdd : ∀ x ∈ ds ++ [d], DeclOk x := by
          intro x hx
          simp only [List.mem_append, List.mem_singleton] at hx
          rcases hx with hx | rfl
          · exact hd x hx
          · exact decl_ok_of h1
        simp only at h
        split at h
        · obtain ⟨⟨l2, a2⟩, h2, h⟩ := then_ok h
          exact ih _ _ _ _ _ _ hdd (by simp; omega) h
        · cases h; exact ⟨hdd, by simp; omega⟩
theorem decls_ok_of {l l' : B} {a a' : Nat} {ds : List PDecl} (h : sDecls l a = .ok (ds, l', a')) : (∀ d ∈ ds, DeclOk d) ∧ ds.length ≤ 20 := by
  unfold sDecls at h
  obtain ⟨⟨l1, a1⟩, h1, h⟩ := then_ok h
  exact declsL_ok_of _ [] _ _ _ _ _ (by simp) (by simp) h
theorem declsOf_ok_of {s : B} {ds : List PDecl} (h : sDeclsOf s = .ok ds) : (∀ d ∈ ds, DeclOk d) ∧ ds.length ≤ 20 := by
  unfold sDeclsOf at h
  split at h
  · cases h
  · obtain ⟨⟨ds2, l1, a1⟩, h1, h⟩ := then_ok h
    simp only at h
    split at h
    · cases h; exact decls_ok_of h1
    · cases h
theorem joinW_cons (w : B) (ws : List B) (h : ws ≠ []) : joinW (w :: ws) = w ++ ([32] ++ joinW ws) := by
  cases ws with
  | nil => exact absurd rfl h
  | cons x ws => simp [joinW]
def declEnds (m : B) : Prop := m = [] ∨ ∃ t, m = 59 :: t
theorem declEnds.stops {m : B} (h : declEnds m) : stops m = true := by
  rcases h with rfl | ⟨t, rfl⟩
  · rfl
  · exact stops_cons _ (by decide)
end Go.Proofs.YtplbdlgmjehckabGreatDoor

namespace Go.Proofs.YtplbdlgmjehckabGreatDoor
set_option linter.unusedVariables false
set_option linter.unusedSimpArgs false
def SB (n : Nat) (f : Flt) : Prop := f.err ≠ 0 ∧ f.pos ≤ n
def SF {α : Type} (n : Nat) (r : Ans (α × B × Nat)) : Prop := match r with
  | .bad f => SB n f
  | .ok (_, l, a) => a + l.length = n
def SG (n : Nat) (r : Ans (B × Nat)) : Prop := match r with
  | .bad f => SB n f
  | .ok (l, a) => a + l.length = n
theorem SF.then {α β : Type} {n : Nat} {r : Ans (α × B × Nat)} {k : α × B × Nat → Ans (β × B × Nat)} (h : SF n r) (hk : ∀ v l a, a + l.length = n → SF n (k (v, l, a))) : SF n (r.then k) := by
  cases r with
  | bad f => exact h
  | ok x => obtain ⟨v, l, a⟩ := x; exact hk v l a h
theorem SG.then {β : Type} {n : Nat} {r : Ans (B × Nat)} {k : B × Nat → Ans (β × B × Nat)} (h : SG n r) (hk : ∀ l a, a + l.length = n → SF n (k (l, a))) : SF n (r.then k) := by
  cases r with
  | bad f => exact h
  | ok x => obtain ⟨l, a⟩ := x; exact hk l a h
theorem sb {n a e : Nat} {l : B} (h : a + l.length = n) (he : e ≠ 0) : SB n ⟨e, a⟩ := ⟨he, by show a ≤ n; omega⟩
theorem prefix_le2 {w l : B} (h : w.isPrefixOf l = true) : w.length ≤ l.length := (List.isPrefixOf_iff_prefix.1 h).length_le
theorem drop_at {w l : B} {a n : Nat} (hp : w.isPrefixOf l = true) (h : a + l.length = n) : a + w.length + (l.drop w.length).length = n := by
  have := prefix_le2 hp; simp; omega
theorem sgaps_fine : ∀ (f : Nat) {n : Nat} (l : B) (a : Nat), a + l.length = n → SG n (sGaps f l a)
  | 0, n, l, a, h => ⟨by simp, Nat.zero_le _⟩
  | f + 1, n, [], a, h => h
  | f + 1, n, c :: t, a, h => by
    simp only [sGaps]
    split
    · exact sgaps_fine f t _ (by simp at h; omega)
    · split
      · rename_i hp
        have hp2 := prefix_le2 hp
        split
        · exact sb h (by simp)
        · rename_i e hf
          have := findSub_le _ _ _ hf
          refine sgaps_fine f _ _ ?_
          simp only [List.length_drop, gapEnd, gapBegin, List.length_cons, List.length_nil] at this hp2 h ⊢
          omega
      · exact h
theorem sgap_fine {n : Nat} {l : B} {a : Nat} (h : a + l.length = n) : SG n (sGap l a) := sgaps_fine _ l a h
theorem sname_fine {n : Nat} {l : B} {a : Nat} (h : a + l.length = n) : SF n (sName l a) := by
  have := nameLen_le l
  unfold sName
  split
  · exact sb h (by simp)
  · show _ + _ = n; simp; omega
theorem smust_fine {n : Nat} {w l : B} {a : Nat} (h : a + l.length = n) : SG n (pMust w l a) := by
  unfold pMust
  split
  · rename_i hp; exact drop_at hp h
  · exact sb h (by simp)
theorem svalL_fine : ∀ (f : Nat) {n : Nat} (ws : List B) (l : B) (a : Nat), a + l.length = n → SF n (sValL f ws l a)
  | 0, n, ws, l, a, h => ⟨by simp, Nat.zero_le _⟩
  | f + 1, n, ws, l, a, h => by
    rw [sValL]
    simp only
    split
    · split
      · exact sb h (by simp)
      · exact h
    · split
      · exact sb h (by simp)
      · refine (sgap_fine ?_).then fun l a h => svalL_fine f _ _ _ h
        have := takeWhile_len_le isWord l
        simp; omega
theorem sstrong_fine {n : Nat} {l : B} {a : Nat} (h : a + l.length = n) : SF n (sStrong l a) := by
  unfold sStrong
  split
  · rename_i hp
    have hm := smust_fine (w := importantWord) (drop_at hp h)
    simp only [List.length_cons, List.length_nil, Nat.zero_add] at hm
    cases hx : pMust importantWord (l.drop 1) (a + 1) with
    | bad f => rw [hx] at hm; exact hm
    | ok x => rw [hx] at hm; exact (sgap_fine hm).then fun l a h => h
  · exact h
theorem sdecl_fine {n : Nat} {l : B} {a : Nat} (h : a + l.length = n) : SF n (sDecl l a) := by
  refine (sname_fine h).then fun v l a h => ?_
  refine (sgap_fine h).then fun l a h => ?_
  refine (smust_fine h).then fun l a h => ?_
  refine (sgap_fine h).then fun l a h => ?_
  refine (svalL_fine _ _ _ _ h).then fun v l a h => ?_
  exact (sstrong_fine h).then fun v l a h => h
theorem sdeclsL_fine : ∀ (f : Nat) {n : Nat} (ds : List PDecl) (l : B) (a : Nat), a + l.length = n → SF n (sDeclsL f ds l a)
  | 0, n, ds, l, a, h => ⟨by simp, Nat.zero_le _⟩
  | f + 1, n, ds, l, a, h => by
    rw [sDeclsL]
    split
    · exact h
    · split
      · exact sb h (by simp)
      · refine (sdecl_fine h).then fun v l a h => ?_
        simp only
        split
        · rename_i hp; exact (sgap_fine (drop_at hp h)).then fun l a h => sdeclsL_fine f _ _ _ h
        · exact h
theorem sdecls_fine {n : Nat} {l : B} {a : Nat} (h : a + l.length = n) : SF n (sDecls l a) := (sgap_fine h).then fun l a h => sdeclsL_fine _ _ _ _ h
theorem sdeclsOf_bad {s : B} {f : Flt} (h : sDeclsOf s = .bad f) : f.err ≠ 0 ∧ f.pos ≤ s.length := by
  unfold sDeclsOf at h
  split at h
  · cases h; exact ⟨by simp, Nat.zero_le _⟩
  · have h1 : SF s.length (sDecls s 0) := sdecls_fine (by simp)
    cases hr : sDecls s 0 with
    | bad g => rw [hr] at h h1; cases h; exact h1
    | ok y =>
      rw [hr] at h h1
      obtain ⟨v, l, a⟩ := y
      simp only [Ans.ok_then] at h
      have h2 : a + l.length = s.length := h1
      split at h
      · cases h
      · cases h; exact sb h2 (by simp)
end Go.Proofs.YtplbdlgmjehckabGreatDoor

