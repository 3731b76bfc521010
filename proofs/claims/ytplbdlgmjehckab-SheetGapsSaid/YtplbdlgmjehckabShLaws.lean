/-
  Plain Lean, no program: one sheet behind the other; rules stand where they say; rules that are blanked out are gone.
-/
import Derived.Test.YtplbdlgmjehckabShSeg
import Derived.Test.YtplbdlgmjehckabPgPlain
namespace Go.Proofs.Ytplbdlgmjehckab
set_option linter.unusedVariables false
set_option linter.unusedSimpArgs false

/-! ### one sheet behind the other -/
def PRule.shift (d : Nat) (r : PRule) : PRule := { r with lo := r.lo + d, hi := r.hi + d }
theorem rulesIn_shift (md : B) (d : Nat) : ∀ (xs : List In1) (b : Nat), rulesIn md (b + d) xs = (rulesIn md b xs).map (PRule.shift d)
  | [], b => rfl
  | .gap g :: xs, b => by
    simp only [rulesIn]; rw [show b + d + g.length = (b + g.length) + d from by omega]; exact rulesIn_shift md d xs _
  | .rule t ss ds :: xs, b => by
    simp only [rulesIn, List.map_cons]; rw [show b + d + t.length = (b + t.length) + d from by omega, rulesIn_shift md d xs _]
    congr 1
theorem rulesIt_shift (d : Nat) : ∀ (xs : List It) (b : Nat), rulesIt (b + d) xs = (rulesIt b xs).map (PRule.shift d)
  | [], b => rfl
  | .plain x :: xs, b => by
    simp only [rulesIt, List.map_append]
    rw [rulesIn_shift, show b + d + x.text.length = (b + x.text.length) + d from by omega, rulesIt_shift d xs _]
  | .media nm h ys :: xs, b => by
    simp only [rulesIt, List.map_append]
    rw [show b + d + 6 + h.length = (b + 6 + h.length) + d from by omega, rulesIn_shift, show b + d + (It.media nm h ys).text.length = (b + (It.media nm h ys).text.length) + d from by omega, rulesIt_shift d xs _]

theorem gap_lf : IsGap [10] := .one (.inr rfl) .nil
theorem sheets_joined {s t : B} {a b : List PRule} (ha : sParse s = .ok a) (hb : sParse t = .ok b) (hl : s.length + t.length + 1 ≤ 4000) (hn : a.length + b.length ≤ 60) :
    sParse (s ++ ([10] ++ t)) = .ok (a ++ b.map (PRule.shift (s.length + 1))) := by
  obtain ⟨_, _, xs, hx, rfl, rfl⟩ := parse_inv ha
  obtain ⟨_, _, ys, hy, rfl, rfl⟩ := parse_inv hb
  have e : textIt xs ++ ([10] ++ textIt ys) = textIt (xs ++ (.plain (.gap [10]) :: ys)) := by rw [textIt_app]; rfl
  have er : rulesIt 0 (xs ++ (.plain (.gap [10]) :: ys)) = rulesIt 0 xs ++ (rulesIt 0 ys).map (PRule.shift ((textIt xs).length + 1)) := by
    rw [rulesIt_app]
    simp only [rulesIt, rulesIn, In1.text, List.nil_append]
    rw [show 0 + (textIt xs).length + ([10] : B).length = 0 + ((textIt xs).length + 1) from by simp, rulesIt_shift]
  rw [e, parse_read, er]
  · intro x hx'
    simp only [List.mem_append, List.mem_cons] at hx'
    rcases hx' with h | rfl | h
    · exact hx x h
    · exact gap_lf
    · exact hy x h
  · rw [textIt_app]; simp [textIt, It.text, In1.text]; omega
  · rw [er]; simpa using hn

/-! ### rules stand where they say -/
def Placed (s : B) : Nat → List PRule → Prop
  | _, [] => True
  | e, r :: rs => ∃ lo hi : Nat, r.lo = (lo : Int) ∧ r.hi = (hi : Int) ∧ e ≤ lo ∧ lo < hi ∧ hi ≤ s.length ∧ RuleT (sub s lo hi) r.sels r.decls ∧ Placed s hi rs
theorem Placed.early {s : B} {e e' : Nat} {rs : List PRule} (h : Placed s e rs) (he : e' ≤ e) : Placed s e' rs := by
  cases rs with
  | nil => trivial
  | cons r rs =>
    obtain ⟨lo, hi, h1, h2, h3, h4, h5, h6, h7⟩ := h
    exact ⟨lo, hi, h1, h2, Nat.le_trans he h3, h4, h5, h6, h7⟩
theorem sub_mid (p t q : B) : sub (p ++ (t ++ q)) p.length (p.length + t.length) = t := by
  unfold sub; rw [List.drop_left, Nat.add_sub_cancel_left, List.take_left]
theorem placed_in (s : B) (md : B) (more : List PRule) : ∀ (xs : List In1) (p q : B), (∀ x ∈ xs, x.wf) → s = p ++ (textIn xs ++ q) → Placed s (p.length + (textIn xs).length) more → Placed s p.length (rulesIn md p.length xs ++ more)
  | [], p, q, _, _, hm => by simpa [textIn, rulesIn] using hm
  | .gap g :: xs, p, q, hw, hs, hm => by
    have := placed_in s md more xs (p ++ g) q (fun x hx => hw x (by simp [hx])) (by rw [hs]; simp [textIn, In1.text]) (by simpa [textIn, In1.text, Nat.add_assoc] using hm)
    simp only [rulesIn]
    rw [List.length_append] at this
    exact this.early (by omega)
  | .rule t ss ds :: xs, p, q, hw, hs, hm => by
    have := placed_in s md more xs (p ++ t) q (fun x hx => hw x (by simp [hx])) (by rw [hs]; simp [textIn, In1.text]) (by simpa [textIn, In1.text, Nat.add_assoc] using hm)
    have hr : RuleT t ss ds := hw (.rule t ss ds) (by simp)
    have hp : 0 < t.length := by obtain ⟨c, u, rfl, _⟩ := hr.head; simp
    rw [List.length_append] at this
    have e : s = p ++ (t ++ (textIn xs ++ q)) := by rw [hs]; simp [textIn, In1.text]
    refine ⟨p.length, p.length + t.length, rfl, rfl, Nat.le_refl _, by omega, by rw [e]; simp, ?_, this⟩
    rw [e, sub_mid]; exact hr
theorem placed_it (s : B) : ∀ (xs : List It) (p : B), (∀ x ∈ xs, x.wf) → s = p ++ textIt xs → Placed s p.length (rulesIt p.length xs)
  | [], p, _, _ => trivial
  | .plain x :: xs, p, hw, hs => by
    have := placed_it s xs (p ++ x.text) (fun y hy => hw y (by simp [hy])) (by rw [hs]; simp [textIt, It.text])
    rw [List.length_append] at this
    exact placed_in s [] _ [x] p (textIt xs) (fun y hy => by simp at hy; subst hy; exact hw (.plain _) (by simp)) (by rw [hs]; simp [textIt, It.text, textIn]) (by simpa [textIn] using this)
  | .media nm h ys :: xs, p, hw, hs => by
    have := placed_it s xs (p ++ (It.media nm h ys).text) (fun y hy => hw y (by simp [hy])) (by rw [hs]; simp [textIt])
    rw [List.length_append] at this
    have h6 : mediaWord.length = 6 := rfl
    have hin := placed_in s nm (rulesIt (p.length + (It.media nm h ys).text.length) xs) ys (p ++ (mediaWord ++ h)) ([125] ++ textIt xs) (hw (.media nm h ys) (by simp)).2 (by rw [hs]; simp [textIt, It.text])
      (this.early (by simp [It.text, h6]; omega))
    rw [show (p ++ (mediaWord ++ h)).length = p.length + 6 + h.length from by simp [h6]; omega] at hin
    exact hin.early (by omega)
theorem parse_placed {s : B} {rs : List PRule} (h : sParse s = .ok rs) : Placed s 0 rs := by
  obtain ⟨_, _, xs, hx, rfl, rfl⟩ := parse_inv h
  exact placed_it _ xs [] hx rfl
theorem rule_alone {t : B} {ss : List PSel} {ds : List PDecl} (h : RuleT t ss ds) (hl : t.length ≤ 4000) : sParse t = .ok [⟨[], ss, ds, 0, (t.length : Int)⟩] := by
  have := parse_read (xs := [.plain (.rule t ss ds)]) (by intro x hx; simp at hx; subst hx; exact h) (by simpa [textIt, It.text, In1.text] using hl) (by simp [rulesIt, rulesIn])
  simpa [textIt, It.text, In1.text, rulesIt, rulesIn] using this

/-! ### rules that are cut out -/
def cutIn (g : B → B) (p : Nat → Bool) : Nat → List In1 → List In1
  | _, [] => []
  | i, .gap x :: xs => .gap x :: cutIn g p i xs
  | i, .rule t ss ds :: xs => (if p i then .gap (g t) else .rule t ss ds) :: cutIn g p (i + 1) xs
def nIn : List In1 → Nat
  | [] => 0
  | .gap _ :: xs => nIn xs
  | .rule _ _ _ :: xs => nIn xs + 1
def cutIt (g : B → B) (p : Nat → Bool) : Nat → List It → List It
  | _, [] => []
  | i, .plain x :: xs => (cutIn g p i [x]).map .plain ++ cutIt g p (i + nIn [x]) xs
  | i, .media nm h ys :: xs => .media nm h (cutIn g p i ys) :: cutIt g p (i + nIn ys) xs
def keepP {α : Type} (p : Nat → Bool) : Nat → List α → List α
  | _, [] => []
  | i, r :: rs => if p i then keepP p (i + 1) rs else r :: keepP p (i + 1) rs
theorem keepP_app {α : Type} (p : Nat → Bool) : ∀ (xs ys : List α) (i : Nat), keepP p i (xs ++ ys) = keepP p i xs ++ keepP p (i + xs.length) ys
  | [], ys, i => rfl
  | x :: xs, ys, i => by
    simp only [List.cons_append, keepP, keepP_app p xs ys, List.length_cons]
    rw [show i + 1 + xs.length = i + (xs.length + 1) from by omega]
    split <;> rfl
theorem keepP_map {α β : Type} (p : Nat → Bool) (f : α → β) : ∀ (xs : List α) (i : Nat), keepP p i (xs.map f) = (keepP p i xs).map f
  | [], i => rfl
  | x :: xs, i => by
    simp only [List.map_cons, keepP, keepP_map p f xs]
    split <;> rfl
theorem nIn_rules (md : B) : ∀ (xs : List In1) (b : Nat), (rulesIn md b xs).length = nIn xs
  | [], b => rfl
  | .gap g :: xs, b => by simp only [rulesIn, nIn, nIn_rules md xs]
  | .rule t ss ds :: xs, b => by simp only [rulesIn, nIn, List.length_cons, nIn_rules md xs]

/-- what is said of a rule hangs not on where it stands; or nothing is moved -/
def Still {α : Type} (g : B → B) (f : PRule → α) (b b' : Nat) : Prop :=
  (∀ r lo hi, f { r with lo := lo, hi := hi } = f r) ∨ ((∀ t, (g t).length = t.length) ∧ b = b')
theorem Still.add {α : Type} {g : B → B} {f : PRule → α} {b b' : Nat} (h : Still g f b b') (n : Nat) : Still g f (b + n) (b' + n) := by
  rcases h with h | ⟨h, rfl⟩
  · exact .inl h
  · exact .inr ⟨h, rfl⟩
theorem Still.cut {α : Type} {g : B → B} {f : PRule → α} {b b' : Nat} (h : Still g f b b') (t : B) : Still g f (b + (g t).length) (b' + t.length) := by
  rcases h with h | ⟨h, rfl⟩
  · exact .inl h
  · exact .inr ⟨h, by rw [h]⟩
theorem Still.more {α : Type} {g : B → B} {f : PRule → α} {b b' : Nat} (h : Still g f b b') {c c' : Nat} (hc : (∀ t, (g t).length = t.length) → b = b' → c = c') : Still g f c c' := by
  rcases h with h | ⟨h, rfl⟩
  · exact .inl h
  · exact .inr ⟨h, hc h rfl⟩
theorem Still.same {α : Type} {g : B → B} {f : PRule → α} {b b' : Nat} (h : Still g f b b') (md : B) (ss : List PSel) (ds : List PDecl) (n : Nat) :
    f ⟨md, ss, ds, (b : Int), ((b + n : Nat) : Int)⟩ = f ⟨md, ss, ds, (b' : Int), ((b' + n : Nat) : Int)⟩ := by
  rcases h with h | ⟨h, rfl⟩
  · exact h ⟨md, ss, ds, (b' : Int), ((b' + n : Nat) : Int)⟩ _ _
  · rfl
theorem cutIn_rules {α : Type} (g : B → B) (p : Nat → Bool) (f : PRule → α) (md : B) : ∀ (xs : List In1) (i b b' : Nat), Still g f b b' →
    (rulesIn md b (cutIn g p i xs)).map f = keepP p i ((rulesIn md b' xs).map f)
  | [], i, b, b', _ => rfl
  | .gap x :: xs, i, b, b', h => by
    simp only [cutIn, rulesIn]; exact cutIn_rules g p f md xs i _ _ (h.add _)
  | .rule t ss ds :: xs, i, b, b', h => by
    simp only [cutIn, rulesIn, List.map_cons, keepP]
    split
    · simp only [rulesIn]; exact cutIn_rules g p f md xs _ _ _ (h.cut t)
    · simp only [rulesIn, List.map_cons]
      rw [h.same, cutIn_rules g p f md xs _ _ _ (h.add _)]
theorem cutIn_len (g : B → B) (hg : ∀ t, (g t).length = t.length) (p : Nat → Bool) : ∀ (xs : List In1) (i : Nat), (textIn (cutIn g p i xs)).length = (textIn xs).length
  | [], i => rfl
  | .gap x :: xs, i => by simp [cutIn, textIn, In1.text, cutIn_len g hg p xs]
  | .rule t ss ds :: xs, i => by
    simp only [cutIn, textIn, List.length_append, cutIn_len g hg p xs]
    split <;> simp [In1.text, hg]
theorem rulesIt_plains : ∀ (xs : List In1) (b : Nat), rulesIt b (xs.map .plain) = rulesIn [] b xs
  | [], b => rfl
  | .gap x :: xs, b => by simp only [List.map_cons, rulesIt, rulesIn, In1.text, rulesIt_plains xs]; rfl
  | .rule t ss ds :: xs, b => by simp only [List.map_cons, rulesIt, rulesIn, In1.text, rulesIt_plains xs]; rfl
theorem textIt_plains : ∀ (xs : List In1), textIt (xs.map .plain) = textIn xs
  | [] => rfl
  | x :: xs => by simp only [List.map_cons, textIt, textIn, It.text, textIt_plains xs]
theorem textIn_one (x : In1) : textIn [x] = x.text := by simp [textIn]
theorem cutIt_rules {α : Type} (g : B → B) (p : Nat → Bool) (f : PRule → α) : ∀ (xs : List It) (i b b' : Nat), Still g f b b' →
    (rulesIt b (cutIt g p i xs)).map f = keepP p i ((rulesIt b' xs).map f)
  | [], i, b, b', _ => rfl
  | .plain x :: xs, i, b, b', h => by
    simp only [cutIt, rulesIt]
    rw [rulesIt_app, List.map_append, List.map_append, keepP_app, rulesIt_plains, cutIn_rules g p f [] [x] i b b' h, List.length_map, nIn_rules, textIt_plains]
    congr 1
    exact cutIt_rules g p f xs _ _ _ (h.more fun hg hb => by rw [cutIn_len g hg, textIn_one, hb])
  | .media nm hh ys :: xs, i, b, b', h => by
    simp only [cutIt, rulesIt]
    rw [List.map_append, List.map_append, keepP_app, cutIn_rules g p f nm ys i _ (b' + 6 + hh.length) ((h.add 6).add _), List.length_map, nIn_rules]
    congr 1
    exact cutIt_rules g p f xs _ _ _ (h.more fun hg hb => by simp only [It.text, List.length_append]; rw [cutIn_len g hg, hb])
theorem cutIn_wf {g : B → B} {p : Nat → Bool} : ∀ {xs : List In1} {i : Nat}, (∀ t ss ds, RuleT t ss ds → IsGap (g t)) → (∀ x ∈ xs, x.wf) → ∀ x ∈ cutIn g p i xs, x.wf
  | [], i, hg, hw, x, hx => by cases hx
  | .gap y :: xs, i, hg, hw, x, hx => by
    simp only [cutIn, List.mem_cons] at hx
    rcases hx with rfl | hx
    · exact hw _ (by simp)
    · exact cutIn_wf hg (fun z hz => hw z (by simp [hz])) x hx
  | .rule t ss ds :: xs, i, hg, hw, x, hx => by
    have hr : RuleT t ss ds := hw (.rule t ss ds) (by simp)
    simp only [cutIn, List.mem_cons] at hx
    rcases hx with rfl | hx
    · split
      · exact hg t ss ds hr
      · exact hr
    · exact cutIn_wf hg (fun z hz => hw z (by simp [hz])) x hx
theorem cutIt_wf {g : B → B} {p : Nat → Bool} (hg : ∀ t ss ds, RuleT t ss ds → IsGap (g t)) : ∀ {xs : List It} {i : Nat}, (∀ x ∈ xs, x.wf) → ∀ x ∈ cutIt g p i xs, x.wf
  | [], i, hw, x, hx => by cases hx
  | .plain y :: xs, i, hw, x, hx => by
    simp only [cutIt, List.mem_append, List.mem_map] at hx
    rcases hx with ⟨z, hz, rfl⟩ | hx
    · exact cutIn_wf (xs := [y]) hg (fun u hu => by simp at hu; subst hu; exact hw (.plain _) (by simp)) z hz
    · exact cutIt_wf hg (fun z hz => hw z (by simp [hz])) x hx
  | .media nm hh ys :: xs, i, hw, x, hx => by
    simp only [cutIt, List.mem_cons] at hx
    rcases hx with rfl | hx
    · have := hw (.media nm hh ys) (by simp)
      exact ⟨this.1, cutIn_wf hg this.2⟩
    · exact cutIt_wf hg (fun z hz => hw z (by simp [hz])) x hx

/-- a text in which some rules' texts are others -/
def splice (g : B → B) (p : Nat → Bool) (s : B) : Nat → Nat → List PRule → B
  | _, at_, [] => s.drop at_
  | i, at_, r :: rs => if p i then sub s at_ r.lo.toNat ++ g (sub s r.lo.toNat r.hi.toNat) ++ splice g p s (i + 1) r.hi.toNat rs else splice g p s (i + 1) at_ rs
theorem sub_nil (s : B) (a : Nat) : sub s a a = [] := by simp [sub]
theorem sub_to {s : B} {a m : Nat} (h : a ≤ m) : sub s a m ++ s.drop m = s.drop a := by
  unfold sub
  have : s.drop m = (s.drop a).drop (m - a) := by rw [List.drop_drop]; congr 1; omega
  rw [this, List.take_append_drop]
theorem splice_from (g : B → B) (p : Nat → Bool) (s : B) : ∀ (rs : List PRule) (i a m : Nat), a ≤ m → Placed s m rs → splice g p s i a rs = sub s a m ++ splice g p s i m rs
  | [], i, a, m, h, _ => by simp only [splice]; exact (sub_to h).symm
  | r :: rs, i, a, m, h, ⟨lo, hi, h1, h2, h3, h4, h5, h6, h7⟩ => by
    simp only [splice]
    split
    · rw [h1, Int.toNat_natCast, ← sub_append s h h3]; simp
    · exact splice_from g p s rs _ a m h (h7.early (by omega))
theorem splice_in (g : B → B) (p : Nat → Bool) (s : B) (md : B) (more : List PRule) : ∀ (xs : List In1) (i : Nat) (b q : B), (∀ x ∈ xs, x.wf) → s = b ++ (textIn xs ++ q) → Placed s (b.length + (textIn xs).length) more →
    splice g p s i b.length (rulesIn md b.length xs ++ more) = textIn (cutIn g p i xs) ++ splice g p s (i + nIn xs) (b.length + (textIn xs).length) more
  | [], i, b, q, _, _, _ => by simp [textIn, rulesIn, cutIn, nIn]
  | .gap x :: xs, i, b, q, hw, hs, hm => by
    have e : s = (b ++ x) ++ (textIn xs ++ q) := by rw [hs]; simp [textIn, In1.text]
    have hm' : Placed s ((b ++ x).length + (textIn xs).length) more := by simpa [textIn, In1.text, Nat.add_assoc] using hm
    have hw' : ∀ y ∈ xs, y.wf := fun y hy => hw y (by simp [hy])
    have ih := splice_in g p s md more xs i (b ++ x) q hw' e hm'
    have hpl := placed_in s md more xs (b ++ x) q hw' e hm'
    rw [List.length_append] at ih hpl
    simp only [rulesIn, cutIn, textIn, In1.text, nIn, List.length_append]
    rw [splice_from g p s _ i b.length (b.length + x.length) (by omega) hpl, ih]
    have : sub s b.length (b.length + x.length) = x := by rw [e, List.append_assoc, sub_mid]
    rw [this]; simp [Nat.add_assoc]
  | .rule t ss ds :: xs, i, b, q, hw, hs, hm => by
    have e : s = (b ++ t) ++ (textIn xs ++ q) := by rw [hs]; simp [textIn, In1.text]
    have hm' : Placed s ((b ++ t).length + (textIn xs).length) more := by simpa [textIn, In1.text, Nat.add_assoc] using hm
    have hw' : ∀ y ∈ xs, y.wf := fun y hy => hw y (by simp [hy])
    have ih := splice_in g p s md more xs (i + 1) (b ++ t) q hw' e hm'
    have hpl := placed_in s md more xs (b ++ t) q hw' e hm'
    have hsub : sub s b.length (b.length + t.length) = t := by rw [e, List.append_assoc, sub_mid]
    rw [List.length_append] at ih hpl
    simp only [rulesIn, cutIn, textIn, In1.text, nIn, List.length_append, List.cons_append, splice, Int.toNat_natCast]
    rw [sub_nil, hsub, List.nil_append]
    split
    · rw [ih]; simp [In1.text, Nat.add_assoc, Nat.add_comm 1]
    · rw [splice_from g p s _ (i + 1) b.length (b.length + t.length) (by omega) hpl, ih, hsub]; simp [In1.text, Nat.add_assoc, Nat.add_comm 1]
theorem splice_it (g : B → B) (p : Nat → Bool) (s : B) : ∀ (xs : List It) (i : Nat) (b : B), (∀ x ∈ xs, x.wf) → s = b ++ textIt xs →
    splice g p s i b.length (rulesIt b.length xs) = textIt (cutIt g p i xs)
  | [], i, b, _, hs => by simp [rulesIt, splice, cutIt, textIt, hs]
  | .plain x :: xs, i, b, hw, hs => by
    have hw' : ∀ y ∈ xs, y.wf := fun y hy => hw y (by simp [hy])
    have e : s = (b ++ x.text) ++ textIt xs := by rw [hs]; simp [textIt, It.text]
    have ih := splice_it g p s xs (i + nIn [x]) (b ++ x.text) hw' e
    have hpl := placed_it s xs (b ++ x.text) hw' e
    rw [List.length_append] at ih hpl
    simp only [rulesIt, cutIt]
    have := splice_in g p s [] _ [x] i b (textIt xs) (fun y hy => by simp at hy; subst hy; exact hw (.plain _) (by simp)) (by rw [hs]; simp [textIt, It.text, textIn]) (by rw [textIn_one]; exact hpl)
    rw [this, textIn_one, ih, textIt_app, textIt_plains]
  | .media nm hh ys :: xs, i, b, hw, hs => by
    have hw' : ∀ y ∈ xs, y.wf := fun y hy => hw y (by simp [hy])
    have h6 : mediaWord.length = 6 := rfl
    have e : s = (b ++ (It.media nm hh ys).text) ++ textIt xs := by rw [hs]; simp [textIt]
    have ih := splice_it g p s xs (i + nIn ys) (b ++ (It.media nm hh ys).text) hw' e
    have hpl := placed_it s xs (b ++ (It.media nm hh ys).text) hw' e
    rw [List.length_append] at ih hpl
    have hwy := (hw (.media nm hh ys) (by simp)).2
    have e2 : s = (b ++ (mediaWord ++ hh)) ++ (textIn ys ++ ([125] ++ textIt xs)) := by rw [hs]; simp [textIt, It.text]
    have hlen : (It.media nm hh ys).text.length = 6 + hh.length + (textIn ys).length + 1 := by simp [It.text, h6]; omega
    have hl2 : (b ++ (mediaWord ++ hh)).length = b.length + 6 + hh.length := by simp [h6]; omega
    have hin := splice_in g p s nm _ ys i (b ++ (mediaWord ++ hh)) ([125] ++ textIt xs) hwy e2 (hpl.early (by rw [hl2, hlen]; omega))
    have hplin := placed_in s nm _ ys (b ++ (mediaWord ++ hh)) ([125] ++ textIt xs) hwy e2 (hpl.early (by rw [hl2, hlen]; omega))
    rw [hl2] at hin hplin
    simp only [rulesIt, cutIt, textIt]
    rw [splice_from g p s _ i b.length (b.length + 6 + hh.length) (by omega) hplin, hin,
      splice_from g p s _ _ (b.length + 6 + hh.length + (textIn ys).length) (b.length + (It.media nm hh ys).text.length) (by rw [hlen]; omega) hpl, ih]
    have h1 : sub s b.length (b.length + 6 + hh.length) = mediaWord ++ hh := by
      rw [e2, List.append_assoc, show b.length + 6 + hh.length = b.length + (mediaWord ++ hh).length from by simp [h6]; omega, sub_mid]
    have h2 : sub s (b.length + 6 + hh.length + (textIn ys).length) (b.length + (It.media nm hh ys).text.length) = [125] := by
      have e3 : s = (b ++ (mediaWord ++ (hh ++ textIn ys))) ++ ([125] ++ textIt xs) := by rw [e2]; simp
      have hl3 : b.length + 6 + hh.length + (textIn ys).length = (b ++ (mediaWord ++ (hh ++ textIn ys))).length := by simp [h6]; omega
      rw [hlen, hl3, show b.length + (6 + hh.length + (textIn ys).length + 1) = (b ++ (mediaWord ++ (hh ++ textIn ys))).length + ([125] : B).length from by simp [h6]; omega, e3, sub_mid]
    rw [h1, h2]
    simp [It.text]

/-- rules cut out of a sheet, gaps in their place, are gone, and nothing else -/
theorem parse_cut {s : B} {rs : List PRule} (h : sParse s = .ok rs) (g : B → B) (hg : ∀ t ss ds, RuleT t ss ds → IsGap (g t)) (p : Nat → Bool) (hl : (splice g p s 0 0 rs).length ≤ 4000) :
    ∃ rs', sParse (splice g p s 0 0 rs) = .ok rs' ∧ ∀ {α : Type} (f : PRule → α), ((∀ r lo hi, f { r with lo := lo, hi := hi } = f r) ∨ ∀ t, (g t).length = t.length) → rs'.map f = keepP p 0 (rs.map f) := by
  obtain ⟨_, hn, xs, hx, rfl, rfl⟩ := parse_inv h
  have hs := splice_it g p (textIt xs) xs 0 [] hx rfl
  simp only [List.length_nil] at hs
  rw [hs] at hl ⊢
  have hk : ∀ {α : Type} (f : PRule → α), ((∀ r lo hi, f { r with lo := lo, hi := hi } = f r) ∨ ∀ t, (g t).length = t.length) → (rulesIt 0 (cutIt g p 0 xs)).map f = keepP p 0 ((rulesIt 0 xs).map f) := fun f hf =>
    cutIt_rules g p f xs 0 0 0 (hf.elim .inl fun h => .inr ⟨h, rfl⟩)
  refine ⟨_, parse_read (cutIt_wf hg hx) hl ?_, fun f hf => hk f hf⟩
  have h1 := congrArg List.length (hk (fun _ => ()) (.inl fun _ _ _ => rfl))
  have hle : ∀ {α : Type} (p : Nat → Bool) (l : List α) (i : Nat), (keepP p i l).length ≤ l.length := by
    intro α p l
    induction l with
    | nil => intro i; exact Nat.le_refl _
    | cons x l ih =>
      intro i
      simp only [keepP]
      split
      · have := ih (i + 1); simp; omega
      · have := ih (i + 1); simp; omega
  have h2 := hle p ((rulesIt 0 xs).map fun _ => ()) 0
  rw [List.length_map] at h1 h2
  omega

theorem blanks_gap : ∀ n, IsGap (List.replicate n (32 : UInt8))
  | 0 => .nil
  | n + 1 => by rw [List.replicate_succ]; exact .one (.inl rfl) (blanks_gap n)
theorem splice_one (g : B → B) (s : B) : ∀ (rs : List PRule) (k i a : Nat) (r : PRule), rs[k]? = some r → splice g (fun j => j == i + k) s i a rs = sub s a r.lo.toNat ++ g (sub s r.lo.toNat r.hi.toNat) ++ s.drop r.hi.toNat
  | [], k, i, a, r, h => by simp at h
  | x :: rs, 0, i, a, r, h => by
    simp at h; subst h
    have : ∀ (rs : List PRule) (n c : Nat), i < n → splice g (fun j => j == i) s n c rs = s.drop c := by
      intro rs
      induction rs with
      | nil => intro n c _; rfl
      | cons y rs ih =>
        intro n c hn
        simp only [splice]
        rw [if_neg (by simp; omega)]
        exact ih _ _ (by omega)
    simp only [Nat.add_zero, splice, beq_self_eq_true, if_true]
    rw [this rs (i + 1) _ (by omega)]
  | x :: rs, k + 1, i, a, r, h => by
    simp only [List.getElem?_cons_succ] at h
    simp only [splice]
    rw [if_neg (by simp)]
    have := splice_one g s rs k (i + 1) a r h
    rw [show i + 1 + k = i + (k + 1) from by omega] at this
    exact this
theorem keepP_one {α : Type} : ∀ (l : List α) (k i : Nat), keepP (fun j => j == i + k) i l = l.take k ++ l.drop (k + 1)
  | [], k, i => by simp [keepP]
  | x :: l, 0, i => by
    have : ∀ (l : List α) (n : Nat), i < n → keepP (fun j => j == i) n l = l := by
      intro l
      induction l with
      | nil => intro n _; rfl
      | cons y l ih => intro n hn; simp only [keepP]; rw [if_neg (by simp; omega), ih _ (by omega)]
    simp only [Nat.add_zero, keepP, beq_self_eq_true, if_true]
    rw [this l _ (by omega)]; simp
  | x :: l, k + 1, i => by
    simp only [keepP]
    rw [if_neg (by simp)]
    have := keepP_one l k (i + 1)
    rw [show i + 1 + k = i + (k + 1) from by omega] at this
    rw [this]; simp
/-- one rule blanked out -/
theorem sheet_gaps {s : B} {rs : List PRule} (h : sParse s = .ok rs) {k : Nat} {r : PRule} (hk : rs[k]? = some r) {lo hi : Nat} (hlo : r.lo = (lo : Int)) (hhi : r.hi = (hi : Int)) (h1 : lo ≤ hi) (h2 : hi ≤ s.length) :
    sParse (s.take lo ++ (List.replicate (hi - lo) 32 ++ s.drop hi)) = .ok (rs.take k ++ rs.drop (k + 1)) := by
  have hg : ∀ (t : B), (List.replicate t.length (32 : UInt8)).length = t.length := by simp
  have hlen := (parse_inv h).1
  have e := splice_one (fun t => List.replicate t.length 32) s rs k 0 0 r hk
  rw [hlo, hhi, Int.toNat_natCast, Int.toNat_natCast, sub_len s h1 h2] at e
  have e2 : sub s 0 lo = s.take lo := by simp [sub]
  rw [e2, List.append_assoc] at e
  obtain ⟨rs', h3, h4⟩ := parse_cut h (fun t => List.replicate t.length 32) (fun t _ _ _ => blanks_gap _) (fun j => j == 0 + k) (by rw [e]; simp; omega)
  have h5 := h4 id (.inr hg)
  rw [List.map_id, List.map_id, keepP_one] at h5
  rw [e, h5] at h3
  exact h3

end Go.Proofs.Ytplbdlgmjehckab
