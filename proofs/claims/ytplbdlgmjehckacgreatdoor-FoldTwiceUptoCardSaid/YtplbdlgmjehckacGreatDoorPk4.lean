/-
  Lemmas for the claims of this seat: the program's functions walked, and plain laws. In this order: ShLaws PrSpec MtSpec MtLaws.
-/
import Derived.Test.YtplbdlgmjehckacGreatDoorPk2
import Derived.Test.YtplbdlgmjehckacGreatDoorPk3
import Derived.Test.YtplbdlgmjehckacGreatDoorPk1
namespace Go.Proofs.YtplbdlgmjehckacGreatDoor
set_option linter.unusedVariables false
set_option linter.unusedSimpArgs false
def PRule.shift (d : Nat) (r : PRule) : PRule := { r with lo := r.lo + d, hi := r.hi + d }
theorem rulesIn_shift (md : B) (d : Nat) : ∀ (xs : List In1) (b : Nat), rulesIn md (b + d) xs = (rulesIn md b xs).map (PRule.shift d)
  | [], b => rfl
  | .gap g :: xs, b => by
    simp only [rulesIn]; rw [show b + d + g.length = (b + g.length) + d from by omega]; exact rulesIn_shift md d xs _
  | .rule t ss ds :: xs, b => by
    simp only [rulesIn, List.map_cons]; rw [show b + d + t.length = (b + t.length) + d from by omega, rulesIn_shift md d xs _]
    congr 1
theorem rulesIt_shift (d : Nat) : ∀ (xs : List It) (b : Nat), rulesIt (b + d) xs = (rulesIt b xs).map (PRule.shift d)
  | [], b => rfl
  | .plain x :: xs, b => by
    simp only [rulesIt, List.map_append]
    rw [rulesIn_shift, show b + d + x.text.length = (b + x.text.length) + d from by omega, rulesIt_shift d xs _]
  | .media nm h ys :: xs, b => by
    simp only [rulesIt, List.map_append]
    rw [show b + d + 6 + h.length = (b + 6 + h.length) + d from by omega, rulesIn_shift, show b + d + (It.media nm h ys).text.length = (b + (It.media nm h ys).text.length) + d from by omega, rulesIt_shift d xs _]
theorem gap_lf : IsGap [10] := .one (.inr rfl) .nil
theorem sheets_joined {s t : B} {a b : List PRule} (ha : sParse s = .ok a) (hb : sParse t = .ok b) (hl : s.length + t.length + 1 ≤ 4000) (hn : a.length + b.length ≤ 60) :
    sParse (s ++ ([10] ++ t)) = .ok (a ++ b.map (PRule.shift (s.length + 1))) := by
  obtain ⟨_, _, xs, hx, rfl, rfl⟩ := parse_inv ha
  obtain ⟨_, _, ys, hy, rfl, rfl⟩ := parse_inv hb
  have e : textIt xs ++ ([10] ++ textIt ys) = textIt (xs ++ (.plain (.gap [10]) :: ys)) := by rw [textIt_app]; rfl
  have er : rulesIt 0 (xs ++ (.plain (.gap [10]) :: ys)) = rulesIt 0 xs ++ (rulesIt 0 ys).map (PRule.shift ((textIt xs).length + 1)) := by
    rw [rulesIt_app]
    simp only [rulesIt, rulesIn, In1.text, List.nil_append]
    rw [show 0 + (textIt xs).length + ([10] : B).length = 0 + ((textIt xs).length + 1) from by simp, rulesIt_shift]
  rw [e, parse_read, er]
  · intro x hx'
    simp only [List.mem_append, List.mem_cons] at hx'
    rcases hx' with h | rfl | h
    · exact hx x h
    · exact gap_lf
    · exact hy x h
  · rw [textIt_app]; simp [textIt, It.text, In1.text]; omega
  · rw [er]; simpa using hn
def Placed (s : B) : Nat → List PRule → Prop
  | _, [] => True
  | e, r :: rs => ∃ lo hi : Nat, r.lo = (lo : Int) ∧ r.hi = (hi : Int) ∧ e ≤ lo ∧ lo < hi ∧ hi ≤ s.length ∧ RuleT (sub s lo hi) r.sels r.decls ∧ Placed s hi rs
theorem Placed.early {s : B} {e e' : Nat} {rs : List PRule} (h : Placed s e rs) (he : e' ≤ e) : Placed s e' rs := by
  cases rs with
  | nil => trivial
  | cons r rs =>
    obtain ⟨lo, hi, h1, h2, h3, h4, h5, h6, h7⟩ := h
    exact ⟨lo, hi, h1, h2, Nat.le_trans he h3, h4, h5, h6, h7⟩
theorem sub_mid (p t q : B) : sub (p ++ (t ++ q)) p.length (p.length + t.length) = t := by
  unfold sub; rw [List.drop_left, Nat.add_sub_cancel_left, List.take_left]
theorem placed_in (s : B) (md : B) (more : List PRule) : ∀ (xs : List In1) (p q : B), (∀ x ∈ xs, x.wf) → s = p ++ (textIn xs ++ q) → Placed s (p.length + (textIn xs).length) more → Placed s p.length (rulesIn md p.length xs ++ more)
  | [], p, q, _, _, hm => by simpa [textIn, rulesIn] using hm
  | .gap g :: xs, p, q, hw, hs, hm => by
    have := placed_in s md more xs (p ++ g) q (fun x hx => hw x (by simp [hx])) (by rw [hs]; simp [textIn, In1.text]) (by simpa [textIn, In1.text, Nat.add_assoc] using hm)
    simp only [rulesIn]
    rw [List.length_append] at this
    exact this.early (by omega)
  | .rule t ss ds :: xs, p, q, hw, hs, hm => by
    have := placed_in s md more xs (p ++ t) q (fun x hx => hw x (by simp [hx])) (by rw [hs]; simp [textIn, In1.text]) (by simpa [textIn, In1.text, Nat.add_assoc] using hm)
    have hr : RuleT t ss ds := hw (.rule t ss ds) (by simp)
    have hp : 0 < t.length := by obtain ⟨c, u, rfl, _⟩ := hr.head; simp
    rw [List.length_append] at this
    have e : s = p ++ (t ++ (textIn xs ++ q)) := by rw [hs]; simp [textIn, In1.text]
    refine ⟨p.length, p.length + t.length, rfl, rfl, Nat.le_refl _, by omega, by rw [e]; simp, ?_, this⟩
    rw [e, sub_mid]; exact hr
theorem placed_it (s : B) : ∀ (xs : List It) (p : B), (∀ x ∈ xs, x.wf) → s = p ++ textIt xs → Placed s p.length (rulesIt p.length xs)
  | [], p, _, _ => trivial
  | .plain x :: xs, p, hw, hs => by
    have := placed_it s xs (p ++ x.text) (fun y hy => hw y (by simp [hy])) (by rw [hs]; simp [textIt, It.text])
    rw [List.length_append] at this
    exact placed_in s [] _ [x] p (textIt xs) (fun y hy => by simp at hy; subst hy; exact hw (.plain _) (by simp)) (by rw [hs]; simp [textIt, It.text, textIn]) (by simpa [textIn] using this)
  | .media nm h ys :: xs, p, hw, hs => by
    have := placed_it s xs (p ++ (It.media nm h ys).text) (fun y hy => hw y (by simp [hy])) (by rw [hs]; simp [textIt])
    rw [List.length_append] at this
    have h6 : mediaWord.length = 6 := rfl
    have hin := placed_in s nm (rulesIt (p.length + (It.media nm h ys).text.length) xs) ys (p ++ (mediaWord ++ h)) ([125] ++ textIt xs) (hw (.media nm h ys) (by simp)).2 (by rw [hs]; simp [textIt, It.text])
      (this.early (by simp [It.text, h6]; omega))
    rw [show (p ++ (mediaWord ++ h)).length = p.length + 6 + h.length from by simp [h6]; omega] at hin
    exact hin.early (by omega)
theorem parse_placed {s : B} {rs : List PRule} (h : sParse s = .ok rs) : Placed s 0 rs := by
  obtain ⟨_, _, xs, hx, rfl, rfl⟩ := parse_inv h
  exact placed_it _ xs [] hx rfl
theorem rule_alone {t : B} {ss : List PSel} {ds : List PDecl} (h : RuleT t ss ds) (hl : t.length ≤ 4000) : sParse t = .ok [⟨[], ss, ds, 0, (t.length : Int)⟩] := by
  have := parse_read (xs := [.plain (.rule t ss ds)]) (by intro x hx; simp at hx; subst hx; exact h) (by simpa [textIt, It.text, In1.text] using hl) (by simp [rulesIt, rulesIn])
  simpa [textIt, It.text, In1.text, rulesIt, rulesIn] using this
def cutIn (g : B → B) (p : Nat → Bool) : Nat → List In1 → List In1
  | _, [] => []
  | i, .gap x :: xs => .gap x :: cutIn g p i xs
  | i, .rule t ss ds :: xs => (if p i then .gap (g t) else .rule t ss ds) :: cutIn g p (i + 1) xs
def nIn : List In1 → Nat
  | [] => 0
  | .gap _ :: xs => nIn xs
  | .rule _ _ _ :: xs => nIn xs + 1
def cutIt (g : B → B) (p : Nat → Bool) : Nat → List It → List It
  | _, [] => []
  | i, .plain x :: xs => (cutIn g p i [x]).map .plain ++ cutIt g p (i + nIn [x]) xs
  | i, .media nm h ys :: xs => .media nm h (cutIn g p i ys) :: cutIt g p (i + nIn ys) xs
def keepP {α : Type} (p : Nat → Bool) : Nat → List α → List α
  | _, [] => []
  | i, r :: rs => if p i then keepP p (i + 1) rs else r :: keepP p (i + 1) rs
theorem keepP_app {α : Type} (p : Nat → Bool) : ∀ (xs ys : List α) (i : Nat), keepP p i (xs ++ ys) = keepP p i xs ++ keepP p (i + xs.length) ys
  | [], ys, i => rfl
  | x :: xs, ys, i => by
    simp only [List.cons_append, keepP, keepP_app p xs ys, List.length_cons]
    rw [show i + 1 + xs.length = i + (xs.length + 1) from by omega]
    split <;> rfl
theorem keepP_map {α β : Type} (p : Nat → Bool) (f : α → β) : ∀ (xs : List α) (i : Nat), keepP p i (xs.map f) = (keepP p i xs).map f
  | [], i => rfl
  | x :: xs, i => by
    simp only [List.map_cons, keepP, keepP_map p f xs]
    split <;> rfl
theorem nIn_rules (md : B) : ∀ (xs : List In1) (b : Nat), (rulesIn md b xs).length = nIn xs
  | [], b => rfl
  | .gap g :: xs, b => by simp only [rulesIn, nIn, nIn_rules md xs]
  | .rule t ss ds :: xs, b => by simp only [rulesIn, nIn, List.length_cons, nIn_rules md xs]
def Still {α : Type} (g : B → B) (f : PRule → α) (b b' : Nat) : Prop :=
  (∀ r lo hi, f { r with lo := lo, hi := hi } = f r) ∨ ((∀ t, (g t).length = t.length) ∧ b = b')
theorem Still.add {α : Type} {g : B → B} {f : PRule → α} {b b' : Nat} (h : Still g f b b') (n : Nat) : Still g f (b + n) (b' + n) := by
  rcases h with h | ⟨h, rfl⟩
  · exact .inl h
  · exact .inr ⟨h, rfl⟩
theorem Still.cut {α : Type} {g : B → B} {f : PRule → α} {b b' : Nat} (h : Still g f b b') (t : B) : Still g f (b + (g t).length) (b' + t.length) := by
  rcases h with h | ⟨h, rfl⟩
  · exact .inl h
  · exact .inr ⟨h, by rw [h]⟩
theorem Still.more {α : Type} {g : B → B} {f : PRule → α} {b b' : Nat} (h : Still g f b b') {c c' : Nat} (hc : (∀ t, (g t).length = t.length) → b = b' → c = c') : Still g f c c' := by
  rcases h with h | ⟨h, rfl⟩
  · exact .inl h
  · exact .inr ⟨h, hc h rfl⟩
theorem Still.same {α : Type} {g : B → B} {f : PRule → α} {b b' : Nat} (h : Still g f b b') (md : B) (ss : List PSel) (ds : List PDecl) (n : Nat) :
    f ⟨md, ss, ds, (b : Int), ((b + n : Nat) : Int)⟩ = f ⟨md, ss, ds, (b' : Int), ((b' + n : Nat) : Int)⟩ := by
  rcases h with h | ⟨h, rfl⟩
  · exact h ⟨md, ss, ds, (b' : Int), ((b' + n : Nat) : Int)⟩ _ _
  · rfl
theorem cutIn_rules {α : Type} (g : B → B) (p : Nat → Bool) (f : PRule → α) (md : B) : ∀ (xs : List In1) (i b b' : Nat), Still g f b b' →
    (rulesIn md b (cutIn g p i xs)).map f = keepP p i ((rulesIn md b' xs).map f)
  | [], i, b, b', _ => rfl
  | .gap x :: xs, i, b, b', h => by
    simp only [cutIn, rulesIn]; exact cutIn_rules g p f md xs i _ _ (h.add _)
  | .rule t ss ds :: xs, i, b, b', h => by
    simp only [cutIn, rulesIn, List.map_cons, keepP]
    split
    · simp only [rulesIn]; exact cutIn_rules g p f md xs _ _ _ (h.cut t)
    · simp only [rulesIn, List.map_cons]
      rw [h.same, cutIn_rules g p f md xs _ _ _ (h.add _)]
theorem cutIn_len (g : B → B) (hg : ∀ t, (g t).length = t.length) (p : Nat → Bool) : ∀ (xs : List In1) (i : Nat), (textIn (cutIn g p i xs)).length = (textIn xs).length
  | [], i => rfl
  | .gap x :: xs, i => by simp [cutIn, textIn, In1.text, cutIn_len g hg p xs]
  | .rule t ss ds :: xs, i => by
    simp only [cutIn, textIn, List.length_append, cutIn_len g hg p xs]
    split <;> simp [In1.text, hg]
theorem rulesIt_plains : ∀ (xs : List In1) (b : Nat), rulesIt b (xs.map .plain) = rulesIn [] b xs
  | [], b => rfl
  | .gap x :: xs, b => by simp only [List.map_cons, rulesIt, rulesIn, In1.text, rulesIt_plains xs]; rfl
  | .rule t ss ds :: xs, b => by simp only [List.map_cons, rulesIt, rulesIn, In1.text, rulesIt_plains xs]; rfl
theorem textIt_plains : ∀ (xs : List In1), textIt (xs.map .plain) = textIn xs
  | [] => rfl
  | x :: xs => by simp only [List.map_cons, textIt, textIn, It.text, textIt_plains xs]
theorem textIn_one (x : In1) : textIn [x] = x.text := by simp [textIn]
theorem cutIt_rules {α : Type} (g : B → B) (p : Nat → Bool) (f : PRule → α) : ∀ (xs : List It) (i b b' : Nat), Still g f b b' →
    (rulesIt b (cutIt g p i xs)).map f = keepP p i ((rulesIt b' xs).map f)
  | [], i, b, b', _ => rfl
  | .plain x :: xs, i, b, b', h => by
    simp only [cutIt, rulesIt]
    rw [rulesIt_app, List.map_append, List.map_append, keepP_app, rulesIt_plains, cutIn_rules g p f [] [x] i b b' h, List.length_map, nIn_rules, textIt_plains]
    congr 1
    exact cutIt_rules g p f xs _ _ _ (h.more fun hg hb => by rw [cutIn_len g hg, textIn_one, hb])
  | .media nm hh ys :: xs, i, b, b', h => by
    simp only [cutIt, rulesIt]
    rw [List.map_append, List.map_append, keepP_app, cutIn_rules g p f nm ys i _ (b' + 6 + hh.length) ((h.add 6).add _), List.length_map, nIn_rules]
    congr 1
    exact cutIt_rules g p f xs _ _ _ (h.more fun hg hb => by simp only [It.text, List.length_append]; rw [cutIn_len g hg, hb])
theorem cutIn_wf {g : B → B} {p : Nat → Bool} : ∀ {xs : List In1} {i : Nat}, (∀ t ss ds, RuleT t ss ds → IsGap (g t)) → (∀ x ∈ xs, x.wf) → ∀ x ∈ cutIn g p i xs, x.wf
  | [], i, hg, hw, x, hx => by cases hx
  | .gap y :: xs, i, hg, hw, x, hx => by
    simp only [cutIn, List.mem_cons] at hx
    rcases hx with rfl | hx
    · exact hw _ (by simp)
    · exact cutIn_wf hg (fun z hz => hw z (by simp [hz])) x hx
  | .rule t ss ds :: xs, i, hg, hw, x, hx => by
    have hr : RuleT t ss ds := hw (.rule t ss ds) (by simp)
    simp only [cutIn, List.mem_cons] at hx
    rcases hx with rfl | hx
    · split
      · exact hg t ss ds hr
      · exact hr
    · exact cutIn_wf hg (fun z hz => hw z (by simp [hz])) x hx
theorem cutIt_wf {g : B → B} {p : Nat → Bool} (hg : ∀ t ss ds, RuleT t ss ds → IsGap (g t)) : ∀ {xs : List It} {i : Nat}, (∀ x ∈ xs, x.wf) → ∀ x ∈ cutIt g p i xs, x.wf
  | [], i, hw, x, hx => by cases hx
  | .plain y :: xs, i, hw, x, hx => by
    simp only [cutIt, List.mem_append, List.mem_map] at hx
    rcases hx with ⟨z, hz, rfl⟩ | hx
    · exact cutIn_wf (xs := [y]) hg (fun u hu => by simp at hu; subst hu; exact hw (.plain _) (by simp)) z hz
    · exact cutIt_wf hg (fun z hz => hw z (by simp [hz])) x hx
  | .media nm hh ys :: xs, i, hw, x, hx => by
    simp only [cutIt, List.mem_cons] at hx
    rcases hx with rfl | hx
    · have := hw (.media nm hh ys) (by simp)
      exact ⟨this.1, cutIn_wf hg this.2⟩
    · exact cutIt_wf hg (fun z hz => hw z (by simp [hz])) x hx
def splice (g : B → B) (p : Nat → Bool) (s : B) : Nat → Nat → List PRule → B
  | _, at_, [] => s.drop at_
  | i, at_, r :: rs => if p i then sub s at_ r.lo.toNat ++ g (sub s r.lo.toNat r.hi.toNat) ++ splice g p s (i + 1) r.hi.toNat rs else splice g p s (i + 1) at_ rs
theorem sub_nil (s : B) (a : Nat) : sub s a a = [] := by simp [sub]
theorem sub_to {s : B} {a m : Nat} (h : a ≤ m) : sub s a m ++ s.drop m = s.drop a := by
  unfold sub
  have : s.drop m = (s.drop a).drop (m - a) := by rw [List.drop_drop]; congr 1; omega
  rw [this, List.take_append_drop]
theorem splice_from (g : B → B) (p : Nat → Bool) (s : B) : ∀ (rs : List PRule) (i a m : Nat), a ≤ m → Placed s m rs → splice g p s i a rs = sub s a m ++ splice g p s i m rs
  | [], i, a, m, h, _ => by simp only [splice]; exact (sub_to h).symm
  | r :: rs, i, a, m, h, ⟨lo, hi, h1, h2, h3, h4, h5, h6, h7⟩ => by
    simp only [splice]
    split
    · rw [h1, Int.toNat_natCast, ← sub_append s h h3]; simp
    · exact splice_from g p s rs _ a m h (h7.early (by omega))
theorem splice_in (g : B → B) (p : Nat → Bool) (s : B) (md : B) (more : List PRule) : ∀ (xs : List In1) (i : Nat) (b q : B), (∀ x ∈ xs, x.wf) → s = b ++ (textIn xs ++ q) → Placed s (b.length + (textIn xs).length) more →
    splice g p s i b.length (rulesIn md b.length xs ++ more) = textIn (cutIn g p i xs) ++ splice g p s (i + nIn xs) (b.length + (textIn xs).length) more
  | [], i, b, q, _, _, _ => by simp [textIn, rulesIn, cutIn, nIn]
  | .gap x :: xs, i, b, q, hw, hs, hm => by
    have e : s = (b ++ x) ++ (textIn xs ++ q) := by rw [hs]; simp [textIn, In1.text]
    have hm' : Placed s ((b ++ x).length + (textIn xs).length) more := by simpa [textIn, In1.text, Nat.add_assoc] using hm
    have hw' : ∀ y ∈ xs, y.wf := fun y hy => hw y (by simp [hy])
    have ih := splice_in g p s md more xs i (b ++ x) q hw' e hm'
    have hpl := placed_in s md more xs (b ++ x) q hw' e hm'
    rw [List.length_append] at ih hpl
    simp only [rulesIn, cutIn, textIn, In1.text, nIn, List.length_append]
    rw [splice_from g p s _ i b.length (b.length + x.length) (by omega) hpl, ih]
    have : sub s b.length (b.length + x.length) = x := by rw [e, List.append_assoc, sub_mid]
    rw [this]; simp [Nat.add_assoc]
  | .rule t ss ds :: xs, i, b, q, hw, hs, hm => by
    have e : s = (b ++ t) ++ (textIn xs ++ q) := by rw [hs]; simp [textIn, In1.text]
    have hm' : Placed s ((b ++ t).length + (textIn xs).length) more := by simpa [textIn, In1.text, Nat.add_assoc] using hm
    have hw' : ∀ y ∈ xs, y.wf := fun y hy => hw y (by simp [hy])
    have ih := splice_in g p s md more xs (i + 1) (b ++ t) q hw' e hm'
    have hpl := placed_in s md more xs (b ++ t) q hw' e hm'
    have hsub : sub s b.length (b.length + t.length) = t := by rw [e, List.append_assoc, sub_mid]
    rw [List.length_append] at ih hpl
    simp only [rulesIn, cutIn, textIn, In1.text, nIn, List.length_append, List.cons_append, splice, Int.toNat_natCast]
    rw [sub_nil, hsub, List.nil_append]
    split
    · rw [ih]; simp [In1.text, Nat.add_assoc, Nat.add_comm 1]
    · rw [splice_from g p s _ (i + 1) b.length (b.length + t.length) (by omega) hpl, ih, hsub]; simp [In1.text, Nat.add_assoc, Nat.add_comm 1]
theorem splice_it (g : B → B) (p : Nat → Bool) (s : B) : ∀ (xs : List It) (i : Nat) (b : B), (∀ x ∈ xs, x.wf) → s = b ++ textIt xs →
    splice g p s i b.length (rulesIt b.length xs) = textIt (cutIt g p i xs)
  | [], i, b, _, hs => by simp [rulesIt, splice, cutIt, textIt, hs]
  | .plain x :: xs, i, b, hw, hs => by
    have hw' : ∀ y ∈ xs, y.wf := fun y hy => hw y (by simp [hy])
    have e : s = (b ++ x.text) ++ textIt xs := by rw [hs]; simp [textIt, It.text]
    have ih := splice_it g p s xs (i + nIn [x]) (b ++ x.text) hw' e
    have hpl := placed_it s xs (b ++ x.text) hw' e
    rw [List.length_append] at ih hpl
    simp only [rulesIt, cutIt]
    have := splice_in g p s [] _ [x] i b (textIt xs) (fun y hy => by simp at hy; subst hy; exact hw (.plain _) (by simp)) (by rw [hs]; simp [textIt, It.text, textIn]) (by rw [textIn_one]; exact hpl)
    rw [this, textIn_one, ih, textIt_app, textIt_plains]
  | .media nm hh ys :: xs, i, b, hw, hs => by
    have hw' : ∀ y ∈ xs, y.wf := fun y hy => hw y (by simp [hy])
    have h6 : mediaWord.length = 6 := rfl
    have e : s = (b ++ (It.media nm hh ys).text) ++ textIt xs := by rw [hs]; simp [textIt]
    have ih := splice_it g p s xs (i + nIn ys) (b ++ (It.media nm hh ys).text) hw' e
    have hpl := placed_it s xs (b ++ (It.media nm hh ys).text) hw' e
    rw [List.length_append] at ih hpl
    have hwy := (hw (.media nm hh ys) (by simp)).2
    have e2 : s = (b ++ (mediaWord ++ hh)) ++ (textIn ys ++ ([125] ++ textIt xs)) := by rw [hs]; simp [textIt, It.text]
    have hlen : (It.media nm hh ys).text.length = 6 + hh.length + (textIn ys).length + 1 := by simp [It.text, h6]; omega
    have hl2 : (b ++ (mediaWord ++ hh)).length = b.length + 6 + hh.length := by simp [h6]; omega
    have hin := splice_in g p s nm _ ys i (b ++ (mediaWord ++ hh)) ([125] ++ textIt xs) hwy e2 (hpl.early (by rw [hl2, hlen]; omega))
    have hplin := placed_in s nm _ ys (b ++ (mediaWord ++ hh)) ([125] ++ textIt xs) hwy e2 (hpl.early (by rw [hl2, hlen]; omega))
    rw [hl2] at hin hplin
    simp only [rulesIt, cutIt, textIt]
    rw [splice_from g p s _ i b.length (b.length + 6 + hh.length) (by omega) hplin, hin,
      splice_from g p s _ _ (b.length + 6 + hh.length + (textIn ys).length) (b.length + (It.media nm hh ys).text.length) (by rw [hlen]; omega) hpl, ih]
    have h1 : sub s b.length (b.length + 6 + hh.length) = mediaWord ++ hh := by
      rw [e2, List.append_assoc, show b.length + 6 + hh.length = b.length + (mediaWord ++ hh).length from by simp [h6]; omega, sub_mid]
    have h2 : sub s (b.length + 6 + hh.length + (textIn ys).length) (b.length + (It.media nm hh ys).text.length) = [125] := by
      have e3 : s = (b ++ (mediaWord ++ (hh ++ textIn ys))) ++ ([125] ++ textIt xs) := by rw [e2]; simp
      have hl3 : b.length + 6 + hh.length + (textIn ys).length = (b ++ (mediaWord ++ (hh ++ textIn ys))).length := by simp [h6]; omega
      rw [hlen, hl3, show b.length + (6 + hh.length + (textIn ys).length + 1) = (b ++ (mediaWord ++ (hh ++ textIn ys))).length + ([125] : B).length from by simp [h6]; omega, e3, sub_mid]
    rw [h1, h2]
    simp [It.text]
theorem parse_cut {s : B} {rs : List PRule} (h : sParse s = .ok rs) (g : B → B) (hg : ∀ t ss ds, RuleT t ss ds → IsGap (g t)) (p : Nat → Bool) (hl : (splice g p s 0 0 rs).length ≤ 4000) :
    ∃ rs', sParse (splice g p s 0 0 rs) = .ok rs' ∧ ∀ {α : Type} (f : PRule → α), ((∀ r lo hi, f { r with lo := lo, hi := hi } = f r) ∨ ∀ t, (g t).length = t.length) → rs'.map f = keepP p 0 (rs.map f) := by
  obtain ⟨_, hn, xs, hx, rfl, rfl⟩ := parse_inv h
  have hs := splice_it g p (textIt xs) xs 0 [] hx rfl
  simp only [List.length_nil] at hs
  rw [hs] at hl ⊢
  have hk : ∀ {α : Type} (f : PRule → α), ((∀ r lo hi, f { r with lo := lo, hi := hi } = f r) ∨ ∀ t, (g t).length = t.length) → (rulesIt 0 (cutIt g p 0 xs)).map f = keepP p 0 ((rulesIt 0 xs).map f) := fun f hf =>
    cutIt_rules g p f xs 0 0 0 (hf.elim .inl fun h => .inr ⟨h, rfl⟩)
  refine ⟨_, parse_read (cutIt_wf hg hx) hl ?_, fun f hf => hk f hf⟩
  have h1 := congrArg List.length (hk (fun _ => ()) (.inl fun _ _ _ => rfl))
  have hle : ∀ {α : Type} (p : Nat → Bool) (l : List α) (i : Nat), (keepP p i l).length ≤ l.length := by
    intro α p l
    induction l with
    | nil => intro i; exact Nat.le_refl _
    | cons x l ih =>
      intro i
      simp only [keepP]
      split
      · have := ih (i + 1); simp; omega
      · have := ih (i + 1); simp; omega
  have h2 := hle p ((rulesIt 0 xs).map fun _ => ()) 0
  rw [List.length_map] at h1 h2
  omega
theorem blanks_gap : ∀ n, IsGap (List.replicate n (32 : UInt8))
  | 0 => .nil
  | n + 1 => by rw [List.replicate_succ]; exact .one (.inl rfl) (blanks_gap n)
theorem splice_one (g : B → B) (s : B) : ∀ (rs : List PRule) (k i a : Nat) (r : PRule), rs[k]? = some r → splice g (fun j => j == i + k) s i a rs = sub s a r.lo.toNat ++ g (sub s r.lo.toNat r.hi.toNat) ++ s.drop r.hi.toNat
  | [], k, i, a, r, h => by simp at h
  | x :: rs, 0, i, a, r, h => by
    simp at h; subst h
    have : ∀ (rs : List PRule) (n c : Nat), i < n → splice g (fun j => j == i) s n c rs = s.drop c := by
      intro rs
      induction rs with
      | nil => intro n c _; rfl
      | cons y rs ih =>
        intro n c hn
        simp only [splice]
        rw [if_neg (by simp; omega)]
        exact ih _ _ (by omega)
    simp only [Nat.add_zero, splice, beq_self_eq_true, if_true]
    rw [this rs (i + 1) _ (by omega)]
  | x :: rs, k + 1, i, a, r, h => by
    simp only [List.getElem?_cons_succ] at h
    simp only [splice]
    rw [if_neg (by simp)]
    have := splice_one g s rs k (i + 1) a r h
    rw [show i + 1 + k = i + (k + 1) from by omega] at this
    exact this
theorem keepP_one {α : Type} : ∀ (l : List α) (k i : Nat), keepP (fun j => j == i + k) i l = l.take k ++ l.drop (k + 1)
  | [], k, i => by simp [keepP]
  | x :: l, 0, i => by
    have : ∀ (l : List α) (n : Nat), i < n → keepP (fun j => j == i) n l = l := by
      intro l
      induction l with
      | nil => intro n _; rfl
      | cons y l ih => intro n hn; simp only [keepP]; rw [if_neg (by simp; omega), ih _ (by omega)]
    simp only [Nat.add_zero, keepP, beq_self_eq_true, if_true]
    rw [this l _ (by omega)]; simp
  | x :: l, k + 1, i => by
    simp only [keepP]
    rw [if_neg (by simp)]
    have := keepP_one l k (i + 1)
    rw [show i + 1 + k = i + (k + 1) from by omega] at this
    rw [this]; simp
theorem sheet_gaps {s : B} {rs : List PRule} (h : sParse s = .ok rs) {k : Nat} {r : PRule} (hk : rs[k]? = some r) {lo hi : Nat} (hlo : r.lo = (lo : Int)) (hhi : r.hi = (hi : Int)) (h1 : lo ≤ hi) (h2 : hi ≤ s.length) :
    sParse (s.take lo ++ (List.replicate (hi - lo) 32 ++ s.drop hi)) = .ok (rs.take k ++ rs.drop (k + 1)) := by
  have hg : ∀ (t : B), (List.replicate t.length (32 : UInt8)).length = t.length := by simp
  have hlen := (parse_inv h).1
  have e := splice_one (fun t => List.replicate t.length 32) s rs k 0 0 r hk
  rw [hlo, hhi, Int.toNat_natCast, Int.toNat_natCast, sub_len s h1 h2] at e
  have e2 : sub s 0 lo = s.take lo := by simp [sub]
  rw [e2, List.append_assoc] at e
  obtain ⟨rs', h3, h4⟩ := parse_cut h (fun t => List.replicate t.length 32) (fun t _ _ _ => blanks_gap _) (fun j => j == 0 + k) (by rw [e]; simp; omega)
  have h5 := h4 id (.inr hg)
  rw [List.map_id, List.map_id, keepP_one] at h5
  rw [e, h5] at h3
  exact h3
end Go.Proofs.YtplbdlgmjehckacGreatDoor
namespace Go.Proofs.YtplbdlgmjehckacGreatDoor
set_option linter.unusedVariables false
set_option linter.unusedSimpArgs false
def splitB : B → List B
  | [] => [[]]
  | c :: t => if c = 32 then [] :: splitB t else match splitB t with
    | [] => [[c]]
    | w :: ws => (c :: w) :: ws
theorem splitB_ne (l : B) : splitB l ≠ [] := by
  cases l with
  | nil => simp [splitB]
  | cons c t =>
    simp only [splitB]
    split
    · simp
    · split <;> simp
def edgeName : B := [101, 100, 103, 101]
def edgeTop : B := [101, 100, 103, 101, 45, 116, 111, 112]
def edgeRight : B := [101, 100, 103, 101, 45, 114, 105, 103, 104, 116]
def edgeBottom : B := [101, 100, 103, 101, 45, 98, 111, 116, 116, 111, 109]
def edgeLeft : B := [101, 100, 103, 101, 45, 108, 101, 102, 116]
def edges (a b c d : B) (st : Bool) : List PDecl := [⟨edgeTop, a, st⟩, ⟨edgeRight, b, st⟩, ⟨edgeBottom, c, st⟩, ⟨edgeLeft, d, st⟩]
def pExpand (d : PDecl) : Option (List PDecl) :=
  if d.name = edgeName then
    match splitB d.val with
    | [a] => some (edges a a a a d.strong)
    | [a, b] => some (edges a b a b d.strong)
    | [a, b, c] => some (edges a b c b d.strong)
    | [a, b, c, e] => some (edges a b c e d.strong)
    | _ => none
  else some [d]
def pAll : List PDecl → Option (List PDecl)
  | [] => some []
  | d :: ds => match pExpand d with
    | none => none
    | some x => match pAll ds with
      | none => none
      | some y => some (x ++ y)
def colorName : B := [99, 111, 108, 111, 114]
def fontName : B := [102, 111, 110, 116]
def sizeName : B := [115, 105, 122, 101]
def pInherits (n : B) : Bool := n == colorName || n == fontName || n == sizeName
def pInitial (n : B) : B :=
  if n = colorName then [98, 108, 97, 99, 107] else if n = fontName then [112, 108, 97, 105, 110] else if n = sizeName then [49, 48]
  else if n = edgeTop ∨ n = edgeRight ∨ n = edgeBottom ∨ n = edgeLeft then [48] else [110, 111, 110, 101]
theorem edges_ne {a b c d : B} {st : Bool} : ∀ y ∈ edges a b c d st, y.name ≠ edgeName ∧ y.strong = st := by
  intro y hy
  simp only [edges, List.mem_cons, List.not_mem_nil, or_false] at hy
  rcases hy with rfl | rfl | rfl | rfl <;> exact ⟨by simp [edgeTop, edgeRight, edgeBottom, edgeLeft, edgeName], rfl⟩
theorem expand_plain {d : PDecl} {x : List PDecl} (h : pExpand d = some x) : ∀ y ∈ x, y.name ≠ edgeName ∧ y.strong = d.strong := by
  unfold pExpand at h
  split at h
  · split at h
    all_goals first
      | (cases h; exact edges_ne)
      | cases h
  · rename_i hn
    cases h
    intro y hy
    simp at hy; subst hy
    exact ⟨hn, rfl⟩
theorem all_plain : ∀ {l x : List PDecl}, pAll l = some x → ∀ y ∈ x, y.name ≠ edgeName
  | [], x, h, y, hy => by cases h; cases hy
  | d :: ds, x, h, y, hy => by
    simp only [pAll] at h
    cases h1 : pExpand d with
    | none => rw [h1] at h; cases h
    | some a =>
      rw [h1] at h
      cases h2 : pAll ds with
      | none => rw [h2] at h; cases h
      | some b =>
        rw [h2] at h; cases h
        rcases List.mem_append.1 hy with hy | hy
        · exact (expand_plain h1 y hy).1
        · exact all_plain h2 y hy
theorem all_of_plain : ∀ {x : List PDecl}, (∀ y ∈ x, y.name ≠ edgeName) → pAll x = some x
  | [], _ => rfl
  | d :: ds, h => by
    have h1 : pExpand d = some [d] := by unfold pExpand; rw [if_neg (h d (by simp))]
    simp only [pAll, h1, all_of_plain (fun y hy => h y (by simp [hy]) : ∀ y ∈ ds, y.name ≠ edgeName)]
    rfl
theorem all_twice {l x : List PDecl} (h : pAll l = some x) : pAll x = some x := all_of_plain (all_plain h)
theorem all_cons {d : PDecl} {ds x : List PDecl} (h : pAll (d :: ds) = some x) : ∃ a b, pExpand d = some a ∧ pAll ds = some b ∧ x = a ++ b := by
  simp only [pAll] at h
  cases h1 : pExpand d with
  | none => rw [h1] at h; cases h
  | some a =>
    rw [h1] at h
    cases h2 : pAll ds with
    | none => rw [h2] at h; cases h
    | some b => rw [h2] at h; cases h; exact ⟨a, b, rfl, rfl, rfl⟩
theorem all_app {xs ys : List PDecl} : pAll (xs ++ ys) = match pAll xs with | none => none | some a => match pAll ys with | none => none | some b => some (a ++ b) := by
  induction xs with
  | nil => simp only [List.nil_append, pAll]; cases pAll ys <;> rfl
  | cons d ds ih =>
    simp only [List.cons_append, pAll]
    cases pExpand d with
    | none => rfl
    | some a =>
      simp only [ih]
      cases pAll ds with
      | none => rfl
      | some b =>
        cases pAll ys with
        | none => rfl
        | some c => simp
def joinB : List B → B
  | [] => []
  | [w] => w
  | w :: ws => w ++ [32] ++ joinB ws
theorem splitB_word {w : B} (h : ∀ c ∈ w, c ≠ 32) (r : B) : splitB (w ++ (32 :: r)) = w :: splitB r := by
  induction w with
  | nil => simp [splitB]
  | cons c w ih =>
    simp only [List.cons_append, splitB]
    rw [if_neg (h c (by simp)), ih (fun x hx => h x (by simp [hx]))]
theorem splitB_last {w : B} (h : ∀ c ∈ w, c ≠ 32) : splitB w = [w] := by
  induction w with
  | nil => rfl
  | cons c w ih =>
    simp only [splitB]
    rw [if_neg (h c (by simp)), ih (fun x hx => h x (by simp [hx]))]
theorem splitB_join : ∀ {ws : List B}, ws ≠ [] → (∀ w ∈ ws, ∀ c ∈ w, c ≠ 32) → splitB (joinB ws) = ws
  | [], h, _ => absurd rfl h
  | [w], _, h => by simp only [joinB]; exact splitB_last (h w (by simp))
  | w :: x :: ws, _, h => by
    have := splitB_join (ws := x :: ws) (by simp) (fun y hy => h y (List.mem_cons_of_mem _ hy))
    show splitB (w ++ [32] ++ joinB (x :: ws)) = _
    rw [List.append_assoc, List.singleton_append, splitB_word (h w (by simp)), this]
end Go.Proofs.YtplbdlgmjehckacGreatDoor
namespace Go.Proofs.YtplbdlgmjehckacGreatDoor
set_option linter.unusedVariables false
set_option linter.unusedSimpArgs false
def className : B := [99, 108, 97, 115, 115]
def idName : B := [105, 100]
def mTestN (l : List PNode) (k : Nat) (n : PNode) (t : PTest) : Bool :=
  if t.kind = 1 then n.name == t.name
  else if t.kind = 2 then !t.name.isEmpty && (splitB (pGet n.attrs className).1).contains t.name
  else if t.kind = 3 then (pGet n.attrs idName).2 && (pGet n.attrs idName).1 == t.name
  else if t.kind = 4 then (pGet n.attrs t.name).2
  else if t.kind = 5 then (pGet n.attrs t.name).2 && (pGet n.attrs t.name).1 == t.val
  else if t.kind = 6 then decide (pAhead l (k : Int) < 0)
  else false
def mTest (l : List PNode) (k : Nat) (t : PTest) : Bool := match l[k]? with
  | none => false
  | some n => mTestN l k n t
def mPart (l : List PNode) (k : Nat) (p : PPart) : Bool := p.tests.all (mTest l k)
def parentOf (l : List PNode) (k : Nat) : Int := match l[k]? with
  | none => -1
  | some n => n.parent
def upsF (l : List PNode) : Nat → Nat → List Nat
  | 0, _ => []
  | f + 1, k => if 0 ≤ parentOf l k ∧ parentOf l k < (k : Int) then (parentOf l k).toNat :: upsF l f (parentOf l k).toNat else []
def ups (l : List PNode) (k : Nat) : List Nat := upsF l k k
def inR (l : List PNode) (k : Int) : Bool := decide (0 ≤ k) && decide (k < (l.length : Int))
def mJoin (l : List PNode) (j : Int) (q : Int → Bool) (k : Nat) : Bool :=
  if j = 2 then q (parentOf l k) else if j = 3 then q (pAhead l (k : Int)) else if j = 1 then (ups l k).any (fun u => q (u : Int)) else false
def mAt (l : List PNode) : List PPart → Int → Bool
  | [], k => inR l k
  | p :: rest, k => inR l k && mPart l k.toNat p && (rest.isEmpty || mJoin l p.join (mAt l rest) k.toNat)
def mMatches (l : List PNode) (k : Int) (s : PSel) : Bool := !s.isEmpty && mAt l s.reverse k
structure PWt where
  a : Nat
  b : Nat
  c : Nat
  deriving DecidableEq
def wLt (x y : PWt) : Bool := decide (x.a < y.a) || (decide (x.a = y.a) && (decide (x.b < y.b) || (decide (x.b = y.b) && decide (x.c < y.c))))
def wTest (w : PWt) (t : PTest) : PWt :=
  if t.kind = 3 then ⟨w.a + 1, w.b, w.c⟩ else if t.kind = 1 then ⟨w.a, w.b, w.c + 1⟩ else if t.kind = 2 ∨ t.kind = 4 ∨ t.kind = 5 ∨ t.kind = 6 then ⟨w.a, w.b + 1, w.c⟩ else w
def wPart (w : PWt) (p : PPart) : PWt := p.tests.foldl wTest w
def mWeigh (s : PSel) : PWt := s.foldl wPart ⟨0, 0, 0⟩
def bestStep (l : List PNode) (k : Int) (acc : PWt × Bool) (s : PSel) : PWt × Bool :=
  if mMatches l k s && (!acc.2 || wLt acc.1 (mWeigh s)) then (mWeigh s, true) else acc
def mBest (l : List PNode) (k : Int) (sels : List PSel) : PWt × Bool := sels.foldl (bestStep l k) (⟨0, 0, 0⟩, false)
theorem upsF_fuel (l : List PNode) : ∀ (f g k : Nat), k ≤ f → k ≤ g → upsF l f k = upsF l g k
  | 0, g, k, hf, hg => by
    obtain rfl : k = 0 := by omega
    cases g with
    | zero => rfl
    | succ g => simp only [upsF]; rw [if_neg (by omega)]
  | f + 1, 0, k, hf, hg => by
    obtain rfl : k = 0 := by omega
    simp only [upsF]; rw [if_neg (by omega)]
  | f + 1, g + 1, k, hf, hg => by
    simp only [upsF]
    split
    · rw [upsF_fuel l f g _ (by omega) (by omega)]
    · rfl
theorem ups_eq (l : List PNode) (k : Nat) : ups l k = if 0 ≤ parentOf l k ∧ parentOf l k < (k : Int) then (parentOf l k).toNat :: ups l (parentOf l k).toNat else [] := by
  unfold ups
  cases k with
  | zero => simp only [upsF]; rw [if_neg (by omega)]
  | succ k =>
    simp only [upsF]
    split
    · rw [upsF_fuel l k _ _ (by omega) (Nat.le_refl _)]
    · rfl
theorem mJoin_mono {l : List PNode} {j : Int} {q r : Int → Bool} {k : Nat} (h : ∀ x, q x = true → r x = true) (hq : mJoin l j q k = true) : mJoin l j r k = true := by
  unfold mJoin at hq ⊢
  split
  · rename_i hj; rw [if_pos hj] at hq; exact h _ hq
  · rename_i h2
    rw [if_neg h2] at hq
    split
    · rename_i hj; rw [if_pos hj] at hq; exact h _ hq
    · rename_i h3
      rw [if_neg h3] at hq
      split
      · rename_i hj
        rw [if_pos hj] at hq
        rw [List.any_eq_true] at hq ⊢
        obtain ⟨u, hu, hx⟩ := hq
        exact ⟨u, hu, h _ hx⟩
      · rename_i hj; rw [if_neg hj] at hq; cases hq
theorem mAt_cons (l : List PNode) (p : PPart) (rest : List PPart) (k : Int) : mAt l (p :: rest) k = true ↔ inR l k = true ∧ mPart l k.toNat p = true ∧ (rest = [] ∨ mJoin l p.join (mAt l rest) k.toNat = true) := by
  simp only [mAt, Bool.and_eq_true, Bool.or_eq_true, List.isEmpty_iff, and_assoc]
end Go.Proofs.YtplbdlgmjehckacGreatDoor
namespace Go.Proofs.YtplbdlgmjehckacGreatDoor
set_option linter.unusedVariables false
set_option linter.unusedSimpArgs false
inductive Asks (l : List PNode) : List PPart → List PPart → Prop
  | nil : Asks l [] []
  | cons {p q : PPart} {ps qs : List PPart} (hp : ∀ k, mPart l k p = true → mPart l k q = true) (hj : ∀ (f : Int → Bool) (k : Nat), (∀ x, f x = true → inR l x = true) → mJoin l p.join f k = true → mJoin l q.join f k = true) (hs : Asks l ps qs) : Asks l (p :: ps) (q :: qs)
theorem mAt_inR {l : List PNode} {ps : List PPart} {k : Int} (h : mAt l ps k = true) : inR l k = true := by
  cases ps with
  | nil => exact h
  | cons p ps => exact ((mAt_cons l p ps k).1 h).1
theorem Asks.at {l : List PNode} {ps qs : List PPart} (h : Asks l ps qs) : ∀ k, mAt l ps k = true → mAt l qs k = true := by
  induction h with
  | nil => intro k h; exact h
  | cons hp hj hs ih =>
    intro k hk
    rw [mAt_cons] at hk ⊢
    refine ⟨hk.1, hp _ hk.2.1, ?_⟩
    rcases hk.2.2 with h | h
    · subst h; cases hs; exact .inl rfl
    · exact .inr (hj _ _ (fun x hx => mAt_inR hx) (mJoin_mono ih h))
theorem Asks.refl (l : List PNode) : ∀ ps, Asks l ps ps
  | [] => .nil
  | p :: ps => .cons (fun _ h => h) (fun _ _ _ h => h) (Asks.refl l ps)
theorem Asks.app {l : List PNode} {ps qs ps' qs' : List PPart} (h : Asks l ps qs) (h' : Asks l ps' qs') : Asks l (ps ++ ps') (qs ++ qs') := by
  induction h with
  | nil => exact h'
  | cons hp hj hs ih => exact .cons hp hj ih
theorem Asks.len {l : List PNode} {ps qs : List PPart} (h : Asks l ps qs) : ps.length = qs.length := by
  induction h with
  | nil => rfl
  | cons _ _ _ ih => simp [ih]
theorem Asks.rev {l : List PNode} {ps qs : List PPart} (h : Asks l ps qs) : Asks l ps.reverse qs.reverse := by
  induction h with
  | nil => exact .nil
  | cons hp hj hs ih => rw [List.reverse_cons, List.reverse_cons]; exact ih.app (.cons hp hj .nil)
theorem Asks.matches {l : List PNode} {s m : PSel} (h : Asks l m s) {k : Int} (hm : mMatches l k m = true) : mMatches l k s = true := by
  unfold mMatches at hm ⊢
  simp only [Bool.and_eq_true, Bool.not_eq_true', List.isEmpty_eq_false_iff] at hm ⊢
  refine ⟨?_, h.rev.at k hm.2⟩
  intro hs
  have := h.len
  rw [hs] at this
  exact hm.1 (List.length_eq_zero_iff.1 this)
theorem set_split {s : PSel} {i : Nat} {p : PPart} (h : s[i]? = some p) : s = s.take i ++ p :: s.drop (i + 1) := by
  obtain ⟨hi, rfl⟩ := List.getElem?_eq_some_iff.1 h
  rw [← List.drop_eq_getElem_cons hi, List.take_append_drop]
theorem asks_one {l : List PNode} {s : PSel} {i : Nat} {p q : PPart} (h : s[i]? = some p) (hp : ∀ k, mPart l k q = true → mPart l k p = true)
    (hj : ∀ (f : Int → Bool) (k : Nat), (∀ x, f x = true → inR l x = true) → mJoin l q.join f k = true → mJoin l p.join f k = true) : Asks l (s.take i ++ q :: s.drop (i + 1)) s := by
  conv => rhs; rw [set_split h]
  exact (Asks.refl l _).app (.cons hp hj (Asks.refl l _))
theorem more_test {l : List PNode} {s : PSel} {i : Nat} {p : PPart} (h : s[i]? = some p) (t : PTest) {k : Int}
    (hm : mMatches l k (s.take i ++ { p with tests := p.tests ++ [t] } :: s.drop (i + 1)) = true) : mMatches l k s = true := by
  refine (asks_one (q := { p with tests := p.tests ++ [t] }) h (fun k hk => ?_) (fun _ _ _ hk => hk)).matches hm
  unfold mPart at hk ⊢
  simp only [List.all_append, Bool.and_eq_true] at hk
  exact hk.1
def PWt.le (x y : PWt) : Prop := x.a ≤ y.a ∧ x.b ≤ y.b ∧ x.c ≤ y.c
theorem PWt.le.rfl' {x : PWt} : x.le x := ⟨Nat.le_refl _, Nat.le_refl _, Nat.le_refl _⟩
theorem wTest_mono {x y : PWt} (h : x.le y) (t : PTest) : (wTest x t).le (wTest y t) := by
  obtain ⟨h1, h2, h3⟩ := h
  unfold wTest
  split
  · exact ⟨by simp; omega, h2, h3⟩
  · split
    · exact ⟨h1, h2, by simp; omega⟩
    · split
      · exact ⟨h1, by simp; omega, h3⟩
      · exact ⟨h1, h2, h3⟩
theorem wTest_grow (x : PWt) (t : PTest) : x.le (wTest x t) := by
  unfold wTest
  split
  · exact ⟨by simp, Nat.le_refl _, Nat.le_refl _⟩
  · split
    · exact ⟨Nat.le_refl _, Nat.le_refl _, by simp⟩
    · split
      · exact ⟨Nat.le_refl _, by simp, Nat.le_refl _⟩
      · exact PWt.le.rfl'
theorem PWt.le.trans {x y z : PWt} (h : x.le y) (g : y.le z) : x.le z := ⟨Nat.le_trans h.1 g.1, Nat.le_trans h.2.1 g.2.1, Nat.le_trans h.2.2 g.2.2⟩
theorem tests_mono : ∀ (ts : List PTest) {x y : PWt}, x.le y → (ts.foldl wTest x).le (ts.foldl wTest y)
  | [], x, y, h => h
  | t :: ts, x, y, h => tests_mono ts (wTest_mono h t)
theorem parts_mono : ∀ (ps : List PPart) {x y : PWt}, x.le y → (ps.foldl wPart x).le (ps.foldl wPart y)
  | [], x, y, h => h
  | p :: ps, x, y, h => parts_mono ps (tests_mono p.tests h)
theorem more_weighs {s : PSel} {i : Nat} {p : PPart} (h : s[i]? = some p) (t : PTest) : (mWeigh s).le (mWeigh (s.take i ++ { p with tests := p.tests ++ [t] } :: s.drop (i + 1))) := by
  conv => lhs; rw [set_split h]
  unfold mWeigh
  simp only [List.foldl_append, List.foldl_cons]
  apply parts_mono
  unfold wPart
  simp only [List.foldl_append, List.foldl_cons, List.foldl_nil]
  exact wTest_grow _ t
theorem mAt_first {l : List PNode} : ∀ {ps qs : List PPart} {k : Int}, ps ≠ [] → mAt l (ps ++ qs) k = true → mAt l ps k = true
  | [], qs, k, h, _ => absurd rfl h
  | p :: ps, qs, k, _, h => by
    rw [List.cons_append, mAt_cons] at h
    rw [mAt_cons]
    refine ⟨h.1, h.2.1, ?_⟩
    by_cases hp : ps = []
    · exact .inl hp
    · right
      rcases h.2.2 with h2 | h2
      · simp at h2; exact absurd h2.1 hp
      · exact mJoin_mono (fun x hx => mAt_first hp hx) h2
theorem matches_drop {l : List PNode} {s : PSel} {k : Int} {i : Nat} (h : mMatches l k s = true) (hi : i < s.length) : mMatches l k (s.drop i) = true := by
  unfold mMatches at h ⊢
  simp only [Bool.and_eq_true, Bool.not_eq_true', List.isEmpty_eq_false_iff] at h ⊢
  have hne : s.drop i ≠ [] := by
    intro h0
    have := congrArg List.length h0
    simp at this; omega
  refine ⟨hne, ?_⟩
  have := h.2
  rw [← List.take_append_drop i s, List.reverse_append] at this
  exact mAt_first (by simpa using hne) this
def Right (l : List PNode) : Prop := ∀ (i : Nat) (n : PNode), l[i]? = some n → n.parent < (i : Int) ∧ -1 ≤ n.parent
theorem child_below {l : List PNode} (hr : Right l) {f : Int → Bool} {k : Nat} (hf : ∀ x, f x = true → inR l x = true) (h : mJoin l 2 f k = true) : mJoin l 1 f k = true := by
  unfold mJoin at h ⊢
  rw [if_pos rfl] at h
  rw [if_neg (by decide), if_neg (by decide), if_pos rfl, ups_eq]
  have h1 := hf _ h
  simp only [inR, Bool.and_eq_true, decide_eq_true_eq] at h1
  have h2 : parentOf l k < (k : Int) := by
    unfold parentOf
    cases hk : l[k]? with
    | none => simp; omega
    | some n => exact (hr k n hk).1
  rw [if_pos ⟨h1.1, h2⟩, List.any_cons]
  rw [show ((parentOf l k).toNat : Int) = parentOf l k from by omega, h]; rfl
theorem joined_below {l : List PNode} (hr : Right l) {s : PSel} {k : Int} {i : Nat} {p : PPart} (h : mMatches l k s = true) (hp : s[i]? = some p) :
    mMatches l k (s.take i ++ { p with join := if p.join = 2 then 1 else p.join } :: s.drop (i + 1)) = true := by
  refine Asks.matches ?_ h
  conv => lhs; rw [set_split hp]
  refine (Asks.refl l _).app (.cons (fun _ h => h) (fun f k hf h => ?_) (Asks.refl l _))
  simp only
  split
  · rename_i hj; rw [hj] at h; exact child_below hr hf h
  · exact h
theorem wLt_irrefl (x : PWt) : wLt x x = false := by simp [wLt]
theorem wLt_trans {x y z : PWt} (h : wLt x y = true) (g : wLt y z = true) : wLt x z = true := by
  simp [wLt] at h g ⊢; omega
theorem wLt_total {x y : PWt} (h : wLt x y = false) (g : wLt y x = false) : x = y := by
  obtain ⟨a, b, c⟩ := x
  obtain ⟨d, e, f⟩ := y
  simp [wLt] at h g
  congr 1 <;> omega
theorem wLt_asymm {x y : PWt} (h : wLt x y = true) : wLt y x = false := by
  cases g : wLt y x with
  | false => rfl
  | true => have := wLt_trans h g; rw [wLt_irrefl] at this; cases this
structure IsBest (l : List PNode) (k : Int) (sels : List PSel) (r : PWt × Bool) : Prop where
  some_ : r.2 = true ↔ ∃ s ∈ sels, mMatches l k s = true
  zero : r.2 = false → r.1 = ⟨0, 0, 0⟩
  one : r.2 = true → ∃ s ∈ sels, mMatches l k s = true ∧ mWeigh s = r.1
  most : ∀ s ∈ sels, mMatches l k s = true → wLt r.1 (mWeigh s) = false
theorem best_snoc {l : List PNode} {k : Int} {xs : List PSel} {r : PWt × Bool} (h : IsBest l k xs r) (s : PSel) : IsBest l k (xs ++ [s]) (bestStep l k r s) := by
  obtain ⟨w, b⟩ := r
  unfold bestStep
  cases hm : mMatches l k s with
  | false =>
    simp only [Bool.false_and, Bool.false_eq_true, if_false]
    refine ⟨?_, h.zero, ?_, ?_⟩
    · rw [h.some_]
      constructor
      · rintro ⟨x, hx, hy⟩; exact ⟨x, by simp [hx], hy⟩
      · rintro ⟨x, hx, hy⟩
        simp only [List.mem_append, List.mem_singleton] at hx
        rcases hx with hx | rfl
        · exact ⟨x, hx, hy⟩
        · rw [hm] at hy; cases hy
    · intro hb
      obtain ⟨x, hx, hy⟩ := h.one hb
      exact ⟨x, by simp [hx], hy⟩
    · intro x hx hy
      simp only [List.mem_append, List.mem_singleton] at hx
      rcases hx with hx | rfl
      · exact h.most x hx hy
      · rw [hm] at hy; cases hy
  | true =>
    simp only [Bool.true_and]
    cases b with
    | false =>
      simp only [Bool.not_false, Bool.true_or, if_true]
      refine ⟨⟨fun _ => ⟨s, by simp, hm⟩, fun _ => rfl⟩, by simp, fun _ => ⟨s, by simp, hm, rfl⟩, ?_⟩
      intro x hx hy
      simp only [List.mem_append, List.mem_singleton] at hx
      rcases hx with hx | rfl
      · have := h.some_.2 ⟨x, hx, hy⟩; cases this
      · exact wLt_irrefl _
    | true =>
      simp only [Bool.not_true, Bool.false_or]
      cases hl : wLt w (mWeigh s) with
      | true =>
        simp only [if_true]
        refine ⟨⟨fun _ => ⟨s, by simp, hm⟩, fun _ => rfl⟩, by simp, fun _ => ⟨s, by simp, hm, rfl⟩, ?_⟩
        intro x hx hy
        simp only [List.mem_append, List.mem_singleton] at hx
        rcases hx with hx | rfl
        · have h1 := h.most x hx hy
          simp only at h1
          cases h2 : wLt (mWeigh s) (mWeigh x) with
          | false => rfl
          | true => rw [wLt_trans hl h2] at h1; cases h1
        · exact wLt_irrefl _
      | false =>
        simp only [Bool.false_eq_true, if_false]
        refine ⟨⟨fun _ => by obtain ⟨x, hx, hy⟩ := h.some_.1 rfl; exact ⟨x, by simp [hx], hy⟩, fun _ => rfl⟩, by simp, fun hb => ?_, ?_⟩
        · obtain ⟨x, hx, hy⟩ := h.one hb
          exact ⟨x, by simp [hx], hy⟩
        · intro x hx hy
          simp only [List.mem_append, List.mem_singleton] at hx
          rcases hx with hx | rfl
          · exact h.most x hx hy
          · exact hl
theorem best_fold {l : List PNode} {k : Int} : ∀ (ys xs : List PSel) (r : PWt × Bool), IsBest l k xs r → IsBest l k (xs ++ ys) (ys.foldl (bestStep l k) r)
  | [], xs, r, h => by simpa using h
  | y :: ys, xs, r, h => by
    have := best_fold ys (xs ++ [y]) _ (best_snoc h y)
    simpa using this
theorem best_is (l : List PNode) (k : Int) (sels : List PSel) : IsBest l k sels (mBest l k sels) := by
  have := best_fold (l := l) (k := k) sels [] (⟨0, 0, 0⟩, false) ⟨by simp, fun _ => rfl, by simp, by simp⟩
  rw [List.nil_append] at this
  exact this
theorem IsBest.unique {l : List PNode} {k : Int} {xs ys : List PSel} {r q : PWt × Bool} (h : IsBest l k xs r) (g : IsBest l k ys q) (hm : ∀ s, s ∈ xs ↔ s ∈ ys) : r = q := by
  obtain ⟨w, b⟩ := r
  obtain ⟨v, c⟩ := q
  have hb : b = c := by
    have : (b = true) ↔ (c = true) := by rw [h.some_, g.some_]; simp [hm]
    cases b <;> cases c <;> simp_all
  subst hb
  congr 1
  cases b with
  | false => exact (h.zero rfl).trans (g.zero rfl).symm
  | true =>
    obtain ⟨s, hs, h1, h2⟩ := h.one rfl
    obtain ⟨t, ht, g1, g2⟩ := g.one rfl
    have e1 := h.most t ((hm t).2 ht) g1
    have e2 := g.most s ((hm s).1 hs) h1
    simp only at h2 g2 e1 e2
    rw [g2] at e1
    rw [h2] at e2
    exact wLt_total e1 e2
theorem best_reverse (l : List PNode) (k : Int) (sels : List PSel) : mBest l k sels.reverse = mBest l k sels := (best_is l k _).unique (best_is l k _) (by simp)
end Go.Proofs.YtplbdlgmjehckacGreatDoor
