/-
  Lemmas for the claims of this seat: the program's functions walked, and plain laws. In this order: ShLaws PrSpec MtSpec MtLaws CaSpec CaLaws.
-/
import Derived.Test.YtplbdlgmjehckadGreatDoorPk2
import Derived.Test.YtplbdlgmjehckadGreatDoorPk3
import Derived.Test.YtplbdlgmjehckadGreatDoorPk1
namespace Go.Proofs.YtplbdlgmjehckadGreatDoor
set_option linter.unusedVariables false
set_option linter.unusedSimpArgs false
def PRule.shift (d : Nat) (r : PRule) : PRule := { r with lo := r.lo + d, hi := r.hi + d }
def Placed (s : B) : Nat → List PRule → Prop
  | _, [] => True
  | e, r :: rs => ∃ lo hi : Nat, r.lo = (lo : Int) ∧ r.hi = (hi : Int) ∧ e ≤ lo ∧ lo < hi ∧ hi ≤ s.length ∧ RuleT (sub s lo hi) r.sels r.decls ∧ Placed s hi rs
theorem Placed.early {s : B} {e e' : Nat} {rs : List PRule} (h : Placed s e rs) (he : e' ≤ e) : Placed s e' rs := by
  cases rs with
  | nil => trivial
  | cons r rs =>
    obtain ⟨lo, hi, h1, h2, h3, h4, h5, h6, h7⟩ := h
    exact ⟨lo, hi, h1, h2, Nat.le_trans he h3, h4, h5, h6, h7⟩
theorem sub_mid (p t q : B) : sub (p ++ (t ++ q)) p.length (p.length + t.length) = t := by
  unfold sub; rw [List.drop_left, Nat.add_sub_cancel_left, List.take_left]
theorem placed_in (s : B) (md : B) (more : List PRule) : ∀ (xs : List In1) (p q : B), (∀ x ∈ xs, x.wf) → s = p ++ (textIn xs ++ q) → Placed s (p.length + (textIn xs).length) more → Placed s p.length (rulesIn md p.length xs ++ more)
  | [], p, q, _, _, hm => by simpa [textIn, rulesIn] using hm
  | .gap g :: xs, p, q, hw, hs, hm => by
    have := placed_in s md more xs (p ++ g) q (fun x hx => hw x (by simp [hx])) (by rw [hs]; simp [textIn, In1.text]) (by simpa [textIn, In1.text, Nat.add_assoc] using hm)
    simp only [rulesIn]
    rw [List.length_append] at this
    exact this.early (by omega)
  | .rule t ss ds :: xs, p, q, hw, hs, hm => by
    have := placed_in s md more xs (p ++ t) q (fun x hx => hw x (by simp [hx])) (by rw [hs]; simp [textIn, In1.text]) (by simpa [textIn, In1.text, Nat.add_assoc] using hm)
    have hr : RuleT t ss ds := hw (.rule t ss ds) (by simp)
    have hp : 0 < t.length := by obtain ⟨c, u, rfl, _⟩ := hr.head; simp
    rw [List.length_append] at this
    have e : s = p ++ (t ++ (textIn xs ++ q)) := by rw [hs]; simp [textIn, In1.text]
    refine ⟨p.length, p.length + t.length, rfl, rfl, Nat.le_refl _, by omega, by rw [e]; simp, ?_, this⟩
    rw [e, sub_mid]; exact hr
theorem placed_it (s : B) : ∀ (xs : List It) (p : B), (∀ x ∈ xs, x.wf) → s = p ++ textIt xs → Placed s p.length (rulesIt p.length xs)
  | [], p, _, _ => trivial
  | .plain x :: xs, p, hw, hs => by
    have := placed_it s xs (p ++ x.text) (fun y hy => hw y (by simp [hy])) (by rw [hs]; simp [textIt, It.text])
    rw [List.length_append] at this
    exact placed_in s [] _ [x] p (textIt xs) (fun y hy => by simp at hy; subst hy; exact hw (.plain _) (by simp)) (by rw [hs]; simp [textIt, It.text, textIn]) (by simpa [textIn] using this)
  | .media nm h ys :: xs, p, hw, hs => by
    have := placed_it s xs (p ++ (It.media nm h ys).text) (fun y hy => hw y (by simp [hy])) (by rw [hs]; simp [textIt])
    rw [List.length_append] at this
    have h6 : mediaWord.length = 6 := rfl
    have hin := placed_in s nm (rulesIt (p.length + (It.media nm h ys).text.length) xs) ys (p ++ (mediaWord ++ h)) ([125] ++ textIt xs) (hw (.media nm h ys) (by simp)).2 (by rw [hs]; simp [textIt, It.text])
      (this.early (by simp [It.text, h6]; omega))
    rw [show (p ++ (mediaWord ++ h)).length = p.length + 6 + h.length from by simp [h6]; omega] at hin
    exact hin.early (by omega)
theorem parse_placed {s : B} {rs : List PRule} (h : sParse s = .ok rs) : Placed s 0 rs := by
  obtain ⟨_, _, xs, hx, rfl, rfl⟩ := parse_inv h
  exact placed_it _ xs [] hx rfl
def cutIn (g : B → B) (p : Nat → Bool) : Nat → List In1 → List In1
  | _, [] => []
  | i, .gap x :: xs => .gap x :: cutIn g p i xs
  | i, .rule t ss ds :: xs => (if p i then .gap (g t) else .rule t ss ds) :: cutIn g p (i + 1) xs
def nIn : List In1 → Nat
  | [] => 0
  | .gap _ :: xs => nIn xs
  | .rule _ _ _ :: xs => nIn xs + 1
def cutIt (g : B → B) (p : Nat → Bool) : Nat → List It → List It
  | _, [] => []
  | i, .plain x :: xs => (cutIn g p i [x]).map .plain ++ cutIt g p (i + nIn [x]) xs
  | i, .media nm h ys :: xs => .media nm h (cutIn g p i ys) :: cutIt g p (i + nIn ys) xs
def keepP {α : Type} (p : Nat → Bool) : Nat → List α → List α
  | _, [] => []
  | i, r :: rs => if p i then keepP p (i + 1) rs else r :: keepP p (i + 1) rs
theorem keepP_app {α : Type} (p : Nat → Bool) : ∀ (xs ys : List α) (i : Nat), keepP p i (xs ++ ys) = keepP p i xs ++ keepP p (i + xs.length) ys
  | [], ys, i => rfl
  | x :: xs, ys, i => by
    simp only [List.cons_append, keepP, keepP_app p xs ys, List.length_cons]
    rw [show i + 1 + xs.length = i + (xs.length + 1) from by omega]
    split <;> rfl
theorem keepP_map {α β : Type} (p : Nat → Bool) (f : α → β) : ∀ (xs : List α) (i : Nat), keepP p i (xs.map f) = (keepP p i xs).map f
  | [], i => rfl
  | x :: xs, i => by
    simp only [List.map_cons, keepP, keepP_map p f xs]
    split <;> rfl
theorem nIn_rules (md : B) : ∀ (xs : List In1) (b : Nat), (rulesIn md b xs).length = nIn xs
  | [], b => rfl
  | .gap g :: xs, b => by simp only [rulesIn, nIn, nIn_rules md xs]
  | .rule t ss ds :: xs, b => by simp only [rulesIn, nIn, List.length_cons, nIn_rules md xs]
def Still {α : Type} (g : B → B) (f : PRule → α) (b b' : Nat) : Prop :=
  (∀ r lo hi, f { r with lo := lo, hi := hi } = f r) ∨ ((∀ t, (g t).length = t.length) ∧ b = b')
theorem Still.add {α : Type} {g : B → B} {f : PRule → α} {b b' : Nat} (h : Still g f b b') (n : Nat) : Still g f (b + n) (b' + n) := by
  rcases h with h | ⟨h, rfl⟩
  · exact .inl h
  · exact .inr ⟨h, rfl⟩
theorem Still.cut {α : Type} {g : B → B} {f : PRule → α} {b b' : Nat} (h : Still g f b b') (t : B) : Still g f (b + (g t).length) (b' + t.length) := by
  rcases h with h | ⟨h, rfl⟩
  · exact .inl h
  · exact .inr ⟨h, by rw [h]⟩
theorem Still.more {α : Type} {g : B → B} {f : PRule → α} {b b' : Nat} (h : Still g f b b') {c c' : Nat} (hc : (∀ t, (g t).length = t.length) → b = b' → c = c') : Still g f c c' := by
  rcases h with h | ⟨h, rfl⟩
  · exact .inl h
  · exact .inr ⟨h, hc h rfl⟩
theorem Still.same {α : Type} {g : B → B} {f : PRule → α} {b b' : Nat} (h : Still g f b b') (md : B) (ss : List PSel) (ds : List PDecl) (n : Nat) :
    f ⟨md, ss, ds, (b : Int), ((b + n : Nat) : Int)⟩ = f ⟨md, ss, ds, (b' : Int), ((b' + n : Nat) : Int)⟩ := by
  rcases h with h | ⟨h, rfl⟩
  · exact h ⟨md, ss, ds, (b' : Int), ((b' + n : Nat) : Int)⟩ _ _
  · rfl
theorem cutIn_rules {α : Type} (g : B → B) (p : Nat → Bool) (f : PRule → α) (md : B) : ∀ (xs : List In1) (i b b' : Nat), Still g f b b' →
    (rulesIn md b (cutIn g p i xs)).map f = keepP p i ((rulesIn md b' xs).map f)
  | [], i, b, b', _ => rfl
  | .gap x :: xs, i, b, b', h => by
    simp only [cutIn, rulesIn]; exact cutIn_rules g p f md xs i _ _ (h.add _)
  | .rule t ss ds :: xs, i, b, b', h => by
    simp only [cutIn, rulesIn, List.map_cons, keepP]
    split
    · simp only [rulesIn]; exact cutIn_rules g p f md xs _ _ _ (h.cut t)
    · simp only [rulesIn, List.map_cons]
      rw [h.same, cutIn_rules g p f md xs _ _ _ (h.add _)]
theorem cutIn_len (g : B → B) (hg : ∀ t, (g t).length = t.length) (p : Nat → Bool) : ∀ (xs : List In1) (i : Nat), (textIn (cutIn g p i xs)).length = (textIn xs).length
  | [], i => rfl
  | .gap x :: xs, i => by simp [cutIn, textIn, In1.text, cutIn_len g hg p xs]
  | .rule t ss ds :: xs, i => by
    simp only [cutIn, textIn, List.length_append, cutIn_len g hg p xs]
    split <;> simp [In1.text, hg]
theorem rulesIt_plains : ∀ (xs : List In1) (b : Nat), rulesIt b (xs.map .plain) = rulesIn [] b xs
  | [], b => rfl
  | .gap x :: xs, b => by simp only [List.map_cons, rulesIt, rulesIn, In1.text, rulesIt_plains xs]; rfl
  | .rule t ss ds :: xs, b => by simp only [List.map_cons, rulesIt, rulesIn, In1.text, rulesIt_plains xs]; rfl
theorem textIt_plains : ∀ (xs : List In1), textIt (xs.map .plain) = textIn xs
  | [] => rfl
  | x :: xs => by simp only [List.map_cons, textIt, textIn, It.text, textIt_plains xs]
theorem textIn_one (x : In1) : textIn [x] = x.text := by simp [textIn]
theorem cutIt_rules {α : Type} (g : B → B) (p : Nat → Bool) (f : PRule → α) : ∀ (xs : List It) (i b b' : Nat), Still g f b b' →
    (rulesIt b (cutIt g p i xs)).map f = keepP p i ((rulesIt b' xs).map f)
  | [], i, b, b', _ => rfl
  | .plain x :: xs, i, b, b', h => by
    simp only [cutIt, rulesIt]
    rw [rulesIt_app, List.map_append, List.map_append, keepP_app, rulesIt_plains, cutIn_rules g p f [] [x] i b b' h, List.length_map, nIn_rules, textIt_plains]
    congr 1
    exact cutIt_rules g p f xs _ _ _ (h.more fun hg hb => by rw [cutIn_len g hg, textIn_one, hb])
  | .media nm hh ys :: xs, i, b, b', h => by
    simp only [cutIt, rulesIt]
    rw [List.map_append, List.map_append, keepP_app, cutIn_rules g p f nm ys i _ (b' + 6 + hh.length) ((h.add 6).add _), List.length_map, nIn_rules]
    congr 1
    exact cutIt_rules g p f xs _ _ _ (h.more fun hg hb => by simp only [It.text, List.length_append]; rw [cutIn_len g hg, hb])
theorem cutIn_wf {g : B → B} {p : Nat → Bool} : ∀ {xs : List In1} {i : Nat}, (∀ t ss ds, RuleT t ss ds → IsGap (g t)) → (∀ x ∈ xs, x.wf) → ∀ x ∈ cutIn g p i xs, x.wf
  | [], i, hg, hw, x, hx => by cases hx
  | .gap y :: xs, i, hg, hw, x, hx => by
    simp only [cutIn, List.mem_cons] at hx
    rcases hx with rfl | hx
    · exact hw _ (by simp)
    · exact cutIn_wf hg (fun z hz => hw z (by simp [hz])) x hx
  | .rule t ss ds :: xs, i, hg, hw, x, hx => by
    have hr : RuleT t ss ds := hw (.rule t ss ds) (by simp)
    simp only [cutIn, List.mem_cons] at hx
    rcases hx with rfl | hx
    · split
      · exact hg t ss ds hr
      · exact hr
    · exact cutIn_wf hg (fun z hz => hw z (by simp [hz])) x hx
theorem cutIt_wf {g : B → B} {p : Nat → Bool} (hg : ∀ t ss ds, RuleT t ss ds → IsGap (g t)) : ∀ {xs : List It} {i : Nat}, (∀ x ∈ xs, x.wf) → ∀ x ∈ cutIt g p i xs, x.wf
  | [], i, hw, x, hx => by cases hx
  | .plain y :: xs, i, hw, x, hx => by
    simp only [cutIt, List.mem_append, List.mem_map] at hx
    rcases hx with ⟨z, hz, rfl⟩ | hx
    · exact cutIn_wf (xs := [y]) hg (fun u hu => by simp at hu; subst hu; exact hw (.plain _) (by simp)) z hz
    · exact cutIt_wf hg (fun z hz => hw z (by simp [hz])) x hx
  | .media nm hh ys :: xs, i, hw, x, hx => by
    simp only [cutIt, List.mem_cons] at hx
    rcases hx with rfl | hx
    · have := hw (.media nm hh ys) (by simp)
      exact ⟨this.1, cutIn_wf hg this.2⟩
    · exact cutIt_wf hg (fun z hz => hw z (by simp [hz])) x hx
def splice (g : B → B) (p : Nat → Bool) (s : B) : Nat → Nat → List PRule → B
  | _, at_, [] => s.drop at_
  | i, at_, r :: rs => if p i then sub s at_ r.lo.toNat ++ g (sub s r.lo.toNat r.hi.toNat) ++ splice g p s (i + 1) r.hi.toNat rs else splice g p s (i + 1) at_ rs
theorem sub_nil (s : B) (a : Nat) : sub s a a = [] := by simp [sub]
theorem sub_to {s : B} {a m : Nat} (h : a ≤ m) : sub s a m ++ s.drop m = s.drop a := by
  unfold sub
  have : s.drop m = (s.drop a).drop (m - a) := by rw [List.drop_drop]; congr 1; omega
  rw [this, List.take_append_drop]
theorem splice_from (g : B → B) (p : Nat → Bool) (s : B) : ∀ (rs : List PRule) (i a m : Nat), a ≤ m → Placed s m rs → splice g p s i a rs = sub s a m ++ splice g p s i m rs
  | [], i, a, m, h, _ => by simp only [splice]; exact (sub_to h).symm
  | r :: rs, i, a, m, h, ⟨lo, hi, h1, h2, h3, h4, h5, h6, h7⟩ => by
    simp only [splice]
    split
    · rw [h1, Int.toNat_natCast, ← sub_append s h h3]; simp
    · exact splice_from g p s rs _ a m h (h7.early (by omega))
theorem splice_in (g : B → B) (p : Nat → Bool) (s : B) (md : B) (more : List PRule) : ∀ (xs : List In1) (i : Nat) (b q : B), (∀ x ∈ xs, x.wf) → s = b ++ (textIn xs ++ q) → Placed s (b.length + (textIn xs).length) more →
    splice g p s i b.length (rulesIn md b.length xs ++ more) = textIn (cutIn g p i xs) ++ splice g p s (i + nIn xs) (b.length + (textIn xs).length) more
  | [], i, b, q, _, _, _ => by simp [textIn, rulesIn, cutIn, nIn]
  | .gap x :: xs, i, b, q, hw, hs, hm => by
    have e : s = (b ++ x) ++ (textIn xs ++ q) := by rw [hs]; simp [textIn, In1.text]
    have hm' : Placed s ((b ++ x).length + (textIn xs).length) more := by simpa [textIn, In1.text, Nat.add_assoc] using hm
    have hw' : ∀ y ∈ xs, y.wf := fun y hy => hw y (by simp [hy])
    have ih := splice_in g p s md more xs i (b ++ x) q hw' e hm'
    have hpl := placed_in s md more xs (b ++ x) q hw' e hm'
    rw [List.length_append] at ih hpl
    simp only [rulesIn, cutIn, textIn, In1.text, nIn, List.length_append]
    rw [splice_from g p s _ i b.length (b.length + x.length) (by omega) hpl, ih]
    have : sub s b.length (b.length + x.length) = x := by rw [e, List.append_assoc, sub_mid]
    rw [this]; simp [Nat.add_assoc]
  | .rule t ss ds :: xs, i, b, q, hw, hs, hm => by
    have e : s = (b ++ t) ++ (textIn xs ++ q) := by rw [hs]; simp [textIn, In1.text]
    have hm' : Placed s ((b ++ t).length + (textIn xs).length) more := by simpa [textIn, In1.text, Nat.add_assoc] using hm
    have hw' : ∀ y ∈ xs, y.wf := fun y hy => hw y (by simp [hy])
    have ih := splice_in g p s md more xs (i + 1) (b ++ t) q hw' e hm'
    have hpl := placed_in s md more xs (b ++ t) q hw' e hm'
    have hsub : sub s b.length (b.length + t.length) = t := by rw [e, List.append_assoc, sub_mid]
    rw [List.length_append] at ih hpl
    simp only [rulesIn, cutIn, textIn, In1.text, nIn, List.length_append, List.cons_append, splice, Int.toNat_natCast]
    rw [sub_nil, hsub, List.nil_append]
    split
    · rw [ih]; simp [In1.text, Nat.add_assoc, Nat.add_comm 1]
    · rw [splice_from g p s _ (i + 1) b.length (b.length + t.length) (by omega) hpl, ih, hsub]; simp [In1.text, Nat.add_assoc, Nat.add_comm 1]
theorem splice_it (g : B → B) (p : Nat → Bool) (s : B) : ∀ (xs : List It) (i : Nat) (b : B), (∀ x ∈ xs, x.wf) → s = b ++ textIt xs →
    splice g p s i b.length (rulesIt b.length xs) = textIt (cutIt g p i xs)
  | [], i, b, _, hs => by simp [rulesIt, splice, cutIt, textIt, hs]
  | .plain x :: xs, i, b, hw, hs => by
    have hw' : ∀ y ∈ xs, y.wf := fun y hy => hw y (by simp [hy])
    have e : s = (b ++ x.text) ++ textIt xs := by rw [hs]; simp [textIt, It.text]
    have ih := splice_it g p s xs (i + nIn [x]) (b ++ x.text) hw' e
    have hpl := placed_it s xs (b ++ x.text) hw' e
    rw [List.length_append] at ih hpl
    simp only [rulesIt, cutIt]
    have := splice_in g p s [] _ [x] i b (textIt xs) (fun y hy => by simp at hy; subst hy; exact hw (.plain _) (by simp)) (by rw [hs]; simp [textIt, It.text, textIn]) (by rw [textIn_one]; exact hpl)
    rw [this, textIn_one, ih, textIt_app, textIt_plains]
  | .media nm hh ys :: xs, i, b, hw, hs => by
    have hw' : ∀ y ∈ xs, y.wf := fun y hy => hw y (by simp [hy])
    have h6 : mediaWord.length = 6 := rfl
    have e : s = (b ++ (It.media nm hh ys).text) ++ textIt xs := by rw [hs]; simp [textIt]
    have ih := splice_it g p s xs (i + nIn ys) (b ++ (It.media nm hh ys).text) hw' e
    have hpl := placed_it s xs (b ++ (It.media nm hh ys).text) hw' e
    rw [List.length_append] at ih hpl
    have hwy := (hw (.media nm hh ys) (by simp)).2
    have e2 : s = (b ++ (mediaWord ++ hh)) ++ (textIn ys ++ ([125] ++ textIt xs)) := by rw [hs]; simp [textIt, It.text]
    have hlen : (It.media nm hh ys).text.length = 6 + hh.length + (textIn ys).length + 1 := by simp [It.text, h6]; omega
    have hl2 : (b ++ (mediaWord ++ hh)).length = b.length + 6 + hh.length := by simp [h6]; omega
    have hin := splice_in g p s nm _ ys i (b ++ (mediaWord ++ hh)) ([125] ++ textIt xs) hwy e2 (hpl.early (by rw [hl2, hlen]; omega))
    have hplin := placed_in s nm _ ys (b ++ (mediaWord ++ hh)) ([125] ++ textIt xs) hwy e2 (hpl.early (by rw [hl2, hlen]; omega))
    rw [hl2] at hin hplin
    simp only [rulesIt, cutIt, textIt]
    rw [splice_from g p s _ i b.length (b.length + 6 + hh.length) (by omega) hplin, hin,
      splice_from g p s _ _ (b.length + 6 + hh.length + (textIn ys).length) (b.length + (It.media nm hh ys).text.length) (by rw [hlen]; omega) hpl, ih]
    have h1 : sub s b.length (b.length + 6 + hh.length) = mediaWord ++ hh := by
      rw [e2, List.append_assoc, show b.length + 6 + hh.length = b.length + (mediaWord ++ hh).length from by simp [h6]; omega, sub_mid]
    have h2 : sub s (b.length + 6 + hh.length + (textIn ys).length) (b.length + (It.media nm hh ys).text.length) = [125] := by
      have e3 : s = (b ++ (mediaWord ++ (hh ++ textIn ys))) ++ ([125] ++ textIt xs) := by rw [e2]; simp
      have hl3 : b.length + 6 + hh.length + (textIn ys).length = (b ++ (mediaWord ++ (hh ++ textIn ys))).length := by simp [h6]; omega
      rw [hlen, hl3, show b.length + (6 + hh.length + (textIn ys).length + 1) = (b ++ (mediaWord ++ (hh ++ textIn ys))).length + ([125] : B).length from by simp [h6]; omega, e3, sub_mid]
    rw [h1, h2]
    simp [It.text]
theorem parse_cut {s : B} {rs : List PRule} (h : sParse s = .ok rs) (g : B → B) (hg : ∀ t ss ds, RuleT t ss ds → IsGap (g t)) (p : Nat → Bool) (hl : (splice g p s 0 0 rs).length ≤ 4000) :
    ∃ rs', sParse (splice g p s 0 0 rs) = .ok rs' ∧ ∀ {α : Type} (f : PRule → α), ((∀ r lo hi, f { r with lo := lo, hi := hi } = f r) ∨ ∀ t, (g t).length = t.length) → rs'.map f = keepP p 0 (rs.map f) := by
  obtain ⟨_, hn, xs, hx, rfl, rfl⟩ := parse_inv h
  have hs := splice_it g p (textIt xs) xs 0 [] hx rfl
  simp only [List.length_nil] at hs
  rw [hs] at hl ⊢
  have hk : ∀ {α : Type} (f : PRule → α), ((∀ r lo hi, f { r with lo := lo, hi := hi } = f r) ∨ ∀ t, (g t).length = t.length) → (rulesIt 0 (cutIt g p 0 xs)).map f = keepP p 0 ((rulesIt 0 xs).map f) := fun f hf =>
    cutIt_rules g p f xs 0 0 0 (hf.elim .inl fun h => .inr ⟨h, rfl⟩)
  refine ⟨_, parse_read (cutIt_wf hg hx) hl ?_, fun f hf => hk f hf⟩
  have h1 := congrArg List.length (hk (fun _ => ()) (.inl fun _ _ _ => rfl))
  have hle : ∀ {α : Type} (p : Nat → Bool) (l : List α) (i : Nat), (keepP p i l).length ≤ l.length := by
    intro α p l
    induction l with
    | nil => intro i; exact Nat.le_refl _
    | cons x l ih =>
      intro i
      simp only [keepP]
      split
      · have := ih (i + 1); simp; omega
      · have := ih (i + 1); simp; omega
  have h2 := hle p ((rulesIt 0 xs).map fun _ => ()) 0
  rw [List.length_map] at h1 h2
  omega
end Go.Proofs.YtplbdlgmjehckadGreatDoor

namespace Go.Proofs.YtplbdlgmjehckadGreatDoor
set_option linter.unusedVariables false
set_option linter.unusedSimpArgs false
def splitB : B → List B
  | [] => [[]]
  | c :: t => if c = 32 then [] :: splitB t else match splitB t with
    | [] => [[c]]
    | w :: ws => (c :: w) :: ws
theorem splitB_ne (l : B) : splitB l ≠ [] := by
  cases l with
  | nil => simp [splitB]
  | cons c t =>
    simp only [splitB]
    split
    · simp
    · split <;> simp
def edgeName : B := [101, 100, 103, 101]
def edgeTop : B := [101, 100, 103, 101, 45, 116, 111, 112]
def edgeRight : B := [101, 100, 103, 101, 45, 114, 105, 103, 104, 116]
def edgeBottom : B := [101, 100, 103, 101, 45, 98, 111, 116, 116, 111, 109]
def edgeLeft : B := [101, 100, 103, 101, 45, 108, 101, 102, 116]
def edges (a b c d : B) (st : Bool) : List PDecl := [⟨edgeTop, a, st⟩, ⟨edgeRight, b, st⟩, ⟨edgeBottom, c, st⟩, ⟨edgeLeft, d, st⟩]
def pExpand (d : PDecl) : Option (List PDecl) :=
  if d.name = edgeName then
    match splitB d.val with
    | [a] => some (edges a a a a d.strong)
    | [a, b] => some (edges a b a b d.strong)
    | [a, b, c] => some (edges a b c b d.strong)
    | [a, b, c, e] => some (edges a b c e d.strong)
    | _ => none
  else some [d]
def pAll : List PDecl → Option (List PDecl)
  | [] => some []
  | d :: ds => match pExpand d with
    | none => none
    | some x => match pAll ds with
      | none => none
      | some y => some (x ++ y)
def colorName : B := [99, 111, 108, 111, 114]
def fontName : B := [102, 111, 110, 116]
def sizeName : B := [115, 105, 122, 101]
def pInherits (n : B) : Bool := n == colorName || n == fontName || n == sizeName
def pInitial (n : B) : B :=
  if n = colorName then [98, 108, 97, 99, 107] else if n = fontName then [112, 108, 97, 105, 110] else if n = sizeName then [49, 48]
  else if n = edgeTop ∨ n = edgeRight ∨ n = edgeBottom ∨ n = edgeLeft then [48] else [110, 111, 110, 101]
theorem edges_ne {a b c d : B} {st : Bool} : ∀ y ∈ edges a b c d st, y.name ≠ edgeName ∧ y.strong = st := by
  intro y hy
  simp only [edges, List.mem_cons, List.not_mem_nil, or_false] at hy
  rcases hy with rfl | rfl | rfl | rfl <;> exact ⟨by simp [edgeTop, edgeRight, edgeBottom, edgeLeft, edgeName], rfl⟩
theorem expand_plain {d : PDecl} {x : List PDecl} (h : pExpand d = some x) : ∀ y ∈ x, y.name ≠ edgeName ∧ y.strong = d.strong := by
  unfold pExpand at h
  split at h
  · split at h
    all_goals first
      | (cases h; exact edges_ne)
      | cases h
  · rename_i hn
    cases h
    intro y hy
    simp at hy; subst hy
    exact ⟨hn, rfl⟩
theorem all_plain : ∀ {l x : List PDecl}, pAll l = some x → ∀ y ∈ x, y.name ≠ edgeName
  | [], x, h, y, hy => by cases h; cases hy
  | d :: ds, x, h, y, hy => by
    simp only [pAll] at h
    cases h1 : pExpand d with
    | none => rw [h1] at h; cases h
    | some a =>
      rw [h1] at h
      cases h2 : pAll ds with
      | none => rw [h2] at h; cases h
      | some b =>
        rw [h2] at h; cases h
        rcases List.mem_append.1 hy with hy | hy
        · exact (expand_plain h1 y hy).1
        · exact all_plain h2 y hy
theorem all_of_plain : ∀ {x : List PDecl}, (∀ y ∈ x, y.name ≠ edgeName) → pAll x = some x
  | [], _ => rfl
  | d :: ds, h => by
    have h1 : pExpand d = some [d] := by unfold pExpand; rw [if_neg (h d (by simp))]
    simp only [pAll, h1, all_of_plain (fun y hy => h y (by simp [hy]) : ∀ y ∈ ds, y.name ≠ edgeName)]
    rfl
theorem all_cons {d : PDecl} {ds x : List PDecl} (h : pAll (d :: ds) = some x) : ∃ a b, pExpand d = some a ∧ pAll ds = some b ∧ x = a ++ b := by
  simp only [pAll] at h
  cases h1 : pExpand d with
  | none => rw [h1] at h; cases h
  | some a =>
    rw [h1] at h
    cases h2 : pAll ds with
    | none => rw [h2] at h; cases h
    | some b => rw [h2] at h; cases h; exact ⟨a, b, rfl, rfl, rfl⟩
theorem all_app {xs ys : List PDecl} : pAll (xs ++ ys) = match pAll xs with | none => none | some a => match pAll ys with | none => none | some b => some (a ++ b) := by
  induction xs with
  | nil => simp only [List.nil_append, pAll]; cases pAll ys <;> rfl
  | cons d ds ih =>
    simp only [List.cons_append, pAll]
    cases pExpand d with
    | none => rfl
    | some a =>
      simp only [ih]
      cases pAll ds with
      | none => rfl
      | some b =>
        cases pAll ys with
        | none => rfl
        | some c => simp
def joinB : List B → B
  | [] => []
  | [w] => w
  | w :: ws => w ++ [32] ++ joinB ws
theorem splitB_word {w : B} (h : ∀ c ∈ w, c ≠ 32) (r : B) : splitB (w ++ (32 :: r)) = w :: splitB r := by
  induction w with
  | nil => simp [splitB]
  | cons c w ih =>
    simp only [List.cons_append, splitB]
    rw [if_neg (h c (by simp)), ih (fun x hx => h x (by simp [hx]))]
theorem splitB_last {w : B} (h : ∀ c ∈ w, c ≠ 32) : splitB w = [w] := by
  induction w with
  | nil => rfl
  | cons c w ih =>
    simp only [splitB]
    rw [if_neg (h c (by simp)), ih (fun x hx => h x (by simp [hx]))]
theorem splitB_join : ∀ {ws : List B}, ws ≠ [] → (∀ w ∈ ws, ∀ c ∈ w, c ≠ 32) → splitB (joinB ws) = ws
  | [], h, _ => absurd rfl h
  | [w], _, h => by simp only [joinB]; exact splitB_last (h w (by simp))
  | w :: x :: ws, _, h => by
    have := splitB_join (ws := x :: ws) (by simp) (fun y hy => h y (List.mem_cons_of_mem _ hy))
    show splitB (w ++ [32] ++ joinB (x :: ws)) = _
    rw [List.append_assoc, List.singleton_append, splitB_word (h w (by simp)), this]
end Go.Proofs.YtplbdlgmjehckadGreatDoor

namespace Go.Proofs.YtplbdlgmjehckadGreatDoor
set_option linter.unusedVariables false
set_option linter.unusedSimpArgs false
def className : B := [99, 108, 97, 115, 115]
def idName : B := [105, 100]
def mTestN (l : List PNode) (k : Nat) (n : PNode) (t : PTest) : Bool :=
  if t.kind = 1 then n.name == t.name
  else if t.kind = 2 then !t.name.isEmpty && (splitB (pGet n.attrs className).1).contains t.name
  else if t.kind = 3 then (pGet n.attrs idName).2 && (pGet n.attrs idName).1 == t.name
  else if t.kind = 4 then (pGet n.attrs t.name).2
  else if t.kind = 5 then (pGet n.attrs t.name).2 && (pGet n.attrs t.name).1 == t.val
  else if t.kind = 6 then decide (pAhead l (k : Int) < 0)
  else false
def mTest (l : List PNode) (k : Nat) (t : PTest) : Bool := match l[k]? with
  | none => false
  | some n => mTestN l k n t
def mPart (l : List PNode) (k : Nat) (p : PPart) : Bool := p.tests.all (mTest l k)
def parentOf (l : List PNode) (k : Nat) : Int := match l[k]? with
  | none => -1
  | some n => n.parent
def upsF (l : List PNode) : Nat → Nat → List Nat
  | 0, _ => []
  | f + 1, k => if 0 ≤ parentOf l k ∧ parentOf l k < (k : Int) then (parentOf l k).toNat :: upsF l f (parentOf l k).toNat else []
def ups (l : List PNode) (k : Nat) : List Nat := upsF l k k
def inR (l : List PNode) (k : Int) : Bool := decide (0 ≤ k) && decide (k < (l.length : Int))
def mJoin (l : List PNode) (j : Int) (q : Int → Bool) (k : Nat) : Bool :=
  if j = 2 then q (parentOf l k) else if j = 3 then q (pAhead l (k : Int)) else if j = 1 then (ups l k).any (fun u => q (u : Int)) else false
def mAt (l : List PNode) : List PPart → Int → Bool
  | [], k => inR l k
  | p :: rest, k => inR l k && mPart l k.toNat p && (rest.isEmpty || mJoin l p.join (mAt l rest) k.toNat)
def mMatches (l : List PNode) (k : Int) (s : PSel) : Bool := !s.isEmpty && mAt l s.reverse k
structure PWt where
  a : Nat
  b : Nat
  c : Nat
  deriving DecidableEq
def wLt (x y : PWt) : Bool := decide (x.a < y.a) || (decide (x.a = y.a) && (decide (x.b < y.b) || (decide (x.b = y.b) && decide (x.c < y.c))))
def wTest (w : PWt) (t : PTest) : PWt :=
  if t.kind = 3 then ⟨w.a + 1, w.b, w.c⟩ else if t.kind = 1 then ⟨w.a, w.b, w.c + 1⟩ else if t.kind = 2 ∨ t.kind = 4 ∨ t.kind = 5 ∨ t.kind = 6 then ⟨w.a, w.b + 1, w.c⟩ else w
def wPart (w : PWt) (p : PPart) : PWt := p.tests.foldl wTest w
def mWeigh (s : PSel) : PWt := s.foldl wPart ⟨0, 0, 0⟩
def bestStep (l : List PNode) (k : Int) (acc : PWt × Bool) (s : PSel) : PWt × Bool :=
  if mMatches l k s && (!acc.2 || wLt acc.1 (mWeigh s)) then (mWeigh s, true) else acc
def mBest (l : List PNode) (k : Int) (sels : List PSel) : PWt × Bool := sels.foldl (bestStep l k) (⟨0, 0, 0⟩, false)
theorem upsF_fuel (l : List PNode) : ∀ (f g k : Nat), k ≤ f → k ≤ g → upsF l f k = upsF l g k
  | 0, g, k, hf, hg => by
    obtain rfl : k = 0 := by omega
    cases g with
    | zero => rfl
    | succ g => simp only [upsF]; rw [if_neg (by omega)]
  | f + 1, 0, k, hf, hg => by
    obtain rfl : k = 0 := by omega
    simp only [upsF]; rw [if_neg (by omega)]
  | f + 1, g + 1, k, hf, hg => by
    simp only [upsF]
    split
    · rw [upsF_fuel l f g _ (by omega) (by omega)]
    · rfl
theorem ups_eq (l : List PNode) (k : Nat) : ups l k = if 0 ≤ parentOf l k ∧ parentOf l k < (k : Int) then (parentOf l k).toNat :: ups l (parentOf l k).toNat else [] := by
  unfold ups
  cases k with
  | zero => simp only [upsF]; rw [if_neg (by omega)]
  | succ k =>
    simp only [upsF]
    split
    · rw [upsF_fuel l k _ _ (by omega) (Nat.le_refl _)]
    · rfl
theorem mJoin_mono {l : List PNode} {j : Int} {q r : Int → Bool} {k : Nat} (h : ∀ x, q x = true → r x = true) (hq : mJoin l j q k = true) : mJoin l j r k = true := by
  unfold mJoin at hq ⊢
  split
  · rename_i hj; rw [if_pos hj] at hq; exact h _ hq
  · rename_i h2
    rw [if_neg h2] at hq
    split
    · rename_i hj; rw [if_pos hj] at hq; exact h _ hq
    · rename_i h3
      rw [if_neg h3] at hq
      split
      · rename_i hj
        rw [if_pos hj] at hq
        rw [List.any_eq_true] at hq ⊢
        obtain ⟨u, hu, hx⟩ := hq
        exact ⟨u, hu, h _ hx⟩
      · rename_i hj; rw [if_neg hj] at hq; cases hq
theorem mAt_cons (l : List PNode) (p : PPart) (rest : List PPart) (k : Int) : mAt l (p :: rest) k = true ↔ inR l k = true ∧ mPart l k.toNat p = true ∧ (rest = [] ∨ mJoin l p.join (mAt l rest) k.toNat = true) := by
  simp only [mAt, Bool.and_eq_true, Bool.or_eq_true, List.isEmpty_iff, and_assoc]
end Go.Proofs.YtplbdlgmjehckadGreatDoor

namespace Go.Proofs.YtplbdlgmjehckadGreatDoor
set_option linter.unusedVariables false
set_option linter.unusedSimpArgs false
inductive Asks (l : List PNode) : List PPart → List PPart → Prop
  | nil : Asks l [] []
  | cons {p q : PPart} {ps qs : List PPart} (hp : ∀ k, mPart l k p = true → mPart l k q = true) (hj : ∀ (f : Int → Bool) (k : Nat), (∀ x, f x = true → inR l x = true) → mJoin l p.join f k = true → mJoin l q.join f k = true) (hs : Asks l ps qs) : Asks l (p :: ps) (q :: qs)
theorem mAt_inR {l : List PNode} {ps : List PPart} {k : Int} (h : mAt l ps k = true) : inR l k = true := by
  cases ps with
  | nil => exact h
  | cons p ps => exact ((mAt_cons l p ps k).1 h).1
theorem Asks.at {l : List PNode} {ps qs : List PPart} (h : Asks l ps qs) : ∀ k, mAt l ps k = true → mAt l qs k = true := by
  induction h with
  | nil => intro k h; exact h
  | cons hp hj hs ih =>
    intro k hk
    rw [mAt_cons] at hk ⊢
    refine ⟨hk.1, hp _ hk.2.1, ?_⟩
    rcases hk.2.2 with h | h
    · subst h; cases hs; exact .inl rfl
    · exact .inr (hj _ _ (fun x hx => mAt_inR hx) (mJoin_mono ih h))
theorem Asks.refl (l : List PNode) : ∀ ps, Asks l ps ps
  | [] => .nil
  | p :: ps => .cons (fun _ h => h) (fun _ _ _ h => h) (Asks.refl l ps)
theorem Asks.app {l : List PNode} {ps qs ps' qs' : List PPart} (h : Asks l ps qs) (h' : Asks l ps' qs') : Asks l (ps ++ ps') (qs ++ qs') := by
  induction h with
  | nil => exact h'
  | cons hp hj hs ih => exact .cons hp hj ih
theorem Asks.len {l : List PNode} {ps qs : List PPart} (h : Asks l ps qs) : ps.length = qs.length := by
  induction h with
  | nil => rfl
  | cons _ _ _ ih => simp [ih]
def PWt.le (x y : PWt) : Prop := x.a ≤ y.a ∧ x.b ≤ y.b ∧ x.c ≤ y.c
theorem PWt.le.trans {x y z : PWt} (h : x.le y) (g : y.le z) : x.le z := ⟨Nat.le_trans h.1 g.1, Nat.le_trans h.2.1 g.2.1, Nat.le_trans h.2.2 g.2.2⟩
def Right (l : List PNode) : Prop := ∀ (i : Nat) (n : PNode), l[i]? = some n → n.parent < (i : Int) ∧ -1 ≤ n.parent
theorem wLt_irrefl (x : PWt) : wLt x x = false := by simp [wLt]
theorem wLt_trans {x y z : PWt} (h : wLt x y = true) (g : wLt y z = true) : wLt x z = true := by
  simp [wLt] at h g ⊢; omega
theorem wLt_total {x y : PWt} (h : wLt x y = false) (g : wLt y x = false) : x = y := by
  obtain ⟨a, b, c⟩ := x
  obtain ⟨d, e, f⟩ := y
  simp [wLt] at h g
  congr 1 <;> omega
theorem wLt_asymm {x y : PWt} (h : wLt x y = true) : wLt y x = false := by
  cases g : wLt y x with
  | false => rfl
  | true => have := wLt_trans h g; rw [wLt_irrefl] at this; cases this
structure IsBest (l : List PNode) (k : Int) (sels : List PSel) (r : PWt × Bool) : Prop where
  some_ : r.2 = true ↔ ∃ s ∈ sels, mMatches l k s = true
  zero : r.2 = false → r.1 = ⟨0, 0, 0⟩
  one : r.2 = true → ∃ s ∈ sels, mMatches l k s = true ∧ mWeigh s = r.1
  most : ∀ s ∈ sels, mMatches l k s = true → wLt r.1 (mWeigh s) = false
theorem IsBest.unique {l : List PNode} {k : Int} {xs ys : List PSel} {r q : PWt × Bool} (h : IsBest l k xs r) (g : IsBest l k ys q) (hm : ∀ s, s ∈ xs ↔ s ∈ ys) : r = q := by
  obtain ⟨w, b⟩ := r
  obtain ⟨v, c⟩ := q
  have hb : b = c := by
    have : (b = true) ↔ (c = true) := by rw [h.some_, g.some_]; simp [hm]
    cases b <;> cases c <;> simp_all
  subst hb
  congr 1
  cases b with
  | false => exact (h.zero rfl).trans (g.zero rfl).symm
  | true =>
    obtain ⟨s, hs, h1, h2⟩ := h.one rfl
    obtain ⟨t, ht, g1, g2⟩ := g.one rfl
    have e1 := h.most t ((hm t).2 ht) g1
    have e2 := g.most s ((hm s).1 hs) h1
    simp only at h2 g2 e1 e2
    rw [g2] at e1
    rw [h2] at e2
    exact wLt_total e1 e2
end Go.Proofs.YtplbdlgmjehckadGreatDoor

namespace Go.Proofs.YtplbdlgmjehckadGreatDoor
set_option linter.unusedVariables false
set_option linter.unusedSimpArgs false
def bLt : B → B → Bool
  | [], [] => false
  | [], _ :: _ => true
  | _ :: _, [] => false
  | a :: x, b :: y => decide (a.toNat < b.toNat) || (decide (a.toNat = b.toNat) && bLt x y)
theorem bLt_irrefl : ∀ x, bLt x x = false
  | [] => rfl
  | a :: x => by simp [bLt, bLt_irrefl x]
theorem bLt_trans : ∀ {x y z : B}, bLt x y = true → bLt y z = true → bLt x z = true
  | [], [], z, h, _ => by cases h
  | [], _ :: _, [], _, h => by cases h
  | [], _ :: _, _ :: _, _, _ => rfl
  | _ :: _, [], _, h, _ => by cases h
  | _ :: _, _ :: _, [], _, h => by cases h
  | a :: x, b :: y, c :: z, h, g => by
    simp only [bLt, Bool.or_eq_true, Bool.and_eq_true, decide_eq_true_eq] at h g ⊢
    rcases h with h | ⟨h, h'⟩ <;> rcases g with g | ⟨g, g'⟩
    · left; omega
    · left; omega
    · left; omega
    · right; exact ⟨by omega, bLt_trans h' g'⟩
theorem bLt_total : ∀ {x y : B}, bLt x y = false → bLt y x = false → x = y
  | [], [], _, _ => rfl
  | [], _ :: _, h, _ => by cases h
  | _ :: _, [], _, h => by cases h
  | a :: x, b :: y, h, g => by
    simp only [bLt, Bool.or_eq_false_iff, Bool.and_eq_false_iff, decide_eq_false_iff_not] at h g
    have e : a.toNat = b.toNat := by omega
    have h2 := h.2.resolve_left (by omega)
    have g2 := g.2.resolve_left (by omega)
    rw [UInt8.toNat_inj.1 e, bLt_total h2 g2]
structure PClaim where
  d : PDecl
  own : Bool
  w : PWt
  deriving DecidableEq
def beats (b a : PClaim) : Bool :=
  if a.d.strong = b.d.strong then (if a.own = b.own then !wLt b.w a.w else b.own) else b.d.strong
def comb : Option PClaim → Option PClaim → Option PClaim
  | none, b => b
  | some a, none => some a
  | some a, some b => if beats b a then some b else some a
def winStep (n : B) (acc : Option PClaim) (c : PClaim) : Option PClaim := if c.d.name = n then comb acc (some c) else acc
def winner (cs : List PClaim) (n : B) : Option PClaim := cs.foldl (winStep n) none
def insName (n : B) : List B → List B
  | [] => [n]
  | x :: xs => if bLt n x then n :: x :: xs else if bLt x n then x :: insName n xs else x :: xs
def namesOf (cs : List PClaim) : List B := cs.foldl (fun acc c => insName c.d.name acc) []
def cLook (cs : List PClaim) : List PDecl := (namesOf cs).filterMap fun n => (winner cs n).map (·.d)
def counts (r : PRule) (media : List B) : Bool := r.media.isEmpty || media.contains r.media
def ruleClaims (l : List PNode) (k : Int) (media : List B) : List PRule → Ans (List PClaim)
  | [] => .ok []
  | r :: rs =>
    if (mBest l k r.sels).2 && counts r media then
      match pAll r.decls with
      | none => .bad ⟨5, 0⟩
      | some d => (ruleClaims l k media rs).then fun cs => .ok (d.map (fun x => ⟨x, false, (mBest l k r.sels).1⟩) ++ cs)
    else ruleClaims l k media rs
def ownDecls (n : PNode) : Ans (List PDecl) :=
  match sDeclsOf (pGet n.attrs styleName).1 with
  | .bad f => .bad ⟨f.err, 0⟩
  | .ok ds => match pAll ds with
    | none => .bad ⟨5, 0⟩
    | some d => .ok d
def ownClaims (ds : List PDecl) : List PClaim := ds.map fun x => ⟨x, true, ⟨0, 0, 0⟩⟩
def cClaims (l : List PNode) (k : Int) (n : PNode) (rules : List PRule) (media : List B) : Ans (List PClaim) :=
  (ruleClaims l k media rules).then fun a => (ownDecls n).then fun b => .ok (a ++ ownClaims b)
def cDeclared (l : List PNode) (k : Int) (rules : List PRule) (media : List B) : Ans (List PDecl) :=
  if inR l k then
    match l[k.toNat]? with
    | none => .bad ⟨6, 0⟩
    | some n => (cClaims l k n rules media).then fun cs => .ok (cLook cs)
  else .bad ⟨6, 0⟩
def lookFind (look : List PDecl) (name : B) : Option PDecl := look.find? fun d => d.name == name
def cValueF : Nat → List PNode → Int → List PRule → List B → B → Ans B
  | 0, _, _, _, _, _ => .bad ⟨6, 0⟩
  | f + 1, l, k, rules, media, name =>
    (cDeclared l k rules media).then fun look =>
    match lookFind look name with
    | some d => .ok d.val
    | none => if pInherits name && decide (0 ≤ parentOf l k.toNat) && decide (parentOf l k.toNat < k) then cValueF f l (parentOf l k.toNat) rules media name else .ok (pInitial name)
def cValue (l : List PNode) (k : Int) (rules : List PRule) (media : List B) (name : B) : Ans B := cValueF (k.toNat + 1) l k rules media name
theorem beats_refl (a : PClaim) : beats a a = true := by simp [beats, wLt_irrefl]
theorem beats_trans {a b c : PClaim} (h : beats b a = true) (g : beats c b = true) : beats c a = true := by
  unfold beats at h g ⊢
  obtain ⟨⟨_, _, sa⟩, oa, wa⟩ := a
  obtain ⟨⟨_, _, sb⟩, ob, wb⟩ := b
  obtain ⟨⟨_, _, sc⟩, oc, wc⟩ := c
  simp only at h g ⊢
  have hw : (!wLt wb wa) = true → (!wLt wc wb) = true → (!wLt wc wa) = true := by
    simp only [Bool.not_eq_true']
    intro h1 h2
    cases h3 : wLt wc wa with
    | false => rfl
    | true =>
      exfalso
      simp [wLt] at h1 h2 h3
      omega
  cases sa <;> cases sb <;> cases sc <;> cases oa <;> cases ob <;> cases oc <;> simp at h g ⊢ <;> first
    | exact hw (by simpa using h) (by simpa using g) |> fun x => by simpa using x
    | trivial
theorem beats_total (a b : PClaim) : beats b a = true ∨ beats a b = true := by
  unfold beats
  obtain ⟨⟨_, _, sa⟩, oa, wa⟩ := a
  obtain ⟨⟨_, _, sb⟩, ob, wb⟩ := b
  simp only
  cases h : wLt wb wa with
  | false => cases sa <;> cases sb <;> cases oa <;> cases ob <;> simp
  | true =>
    have := wLt_asymm h
    cases sa <;> cases sb <;> cases oa <;> cases ob <;> simp [this]
theorem comb_none (a : Option PClaim) : comb a none = a := by cases a <;> rfl
theorem comb_assoc (a b c : Option PClaim) : comb (comb a b) c = comb a (comb b c) := by
  cases a with
  | none => rfl
  | some a =>
    cases b with
    | none => rfl
    | some b =>
      cases c with
      | none => rw [comb_none, comb_none]
      | some c =>
        simp only [comb]
        cases h1 : beats b a <;> cases h2 : beats c b <;> simp only [comb, Bool.false_eq_true, if_false, if_true, h1, h2]
        · cases h3 : beats c a with
          | false => simp
          | true =>
            exfalso
            have := (beats_total a b).resolve_left (by rw [h1]; simp)
            have := beats_trans this h3
            rw [h2] at this; cases this
        · cases h3 : beats c a with
          | true => rfl
          | false =>
            have := beats_trans h1 h2
            rw [h3] at this; cases this
theorem winner_from (n : B) : ∀ (cs : List PClaim) (acc : Option PClaim), cs.foldl (winStep n) acc = comb acc (winner cs n)
  | [], acc => (comb_none acc).symm
  | c :: cs, acc => by
    unfold winner
    simp only [List.foldl_cons]
    rw [winner_from n cs (winStep n acc c), winner_from n cs (winStep n none c)]
    unfold winStep
    split
    · rw [comb_assoc]; rfl
    · rfl
theorem winner_app (a b : List PClaim) (n : B) : winner (a ++ b) n = comb (winner a n) (winner b n) := by
  unfold winner
  rw [List.foldl_append, winner_from]; rfl
theorem winner_cons (c : PClaim) (b : List PClaim) (n : B) : winner (c :: b) n = comb (if c.d.name = n then some c else none) (winner b n) := by
  have := winner_app [c] b n
  simp only [List.singleton_append] at this
  rw [this]
  congr 1
theorem winner_fact : ∀ (cs : List PClaim) (n : B), match winner cs n with
    | none => ∀ c ∈ cs, c.d.name ≠ n
    | some w => w ∈ cs ∧ w.d.name = n ∧ ∀ c ∈ cs, c.d.name = n → beats w c = true
  | [], n => by intro c hc; cases hc
  | c :: cs, n => by
    have ih := winner_fact cs n
    rw [winner_cons]
    cases hw : winner cs n with
    | none =>
      rw [hw] at ih
      simp only [comb_none]
      split
      · rename_i w hn
        split at hn
        · cases hn
        · rename_i h
          intro x hx
          rcases List.mem_cons.1 hx with rfl | hx
          · exact h
          · exact ih x hx
      · rename_i w hn
        split at hn
        · rename_i h
          cases hn
          refine ⟨by simp, h, fun x hx hxn => ?_⟩
          rcases List.mem_cons.1 hx with rfl | hx
          · exact beats_refl _
          · exact absurd hxn (ih x hx)
        · cases hn
    | some w =>
      rw [hw] at ih
      obtain ⟨h1, h2, h3⟩ := ih
      by_cases hc : c.d.name = n
      · rw [if_pos hc]
        simp only [comb]
        cases hb : beats w c with
        | true =>
          simp only [if_true]
          refine ⟨by simp [h1], h2, fun x hx hxn => ?_⟩
          rcases List.mem_cons.1 hx with rfl | hx
          · exact hb
          · exact h3 x hx hxn
        | false =>
          simp only [Bool.false_eq_true, if_false]
          have hcw := (beats_total w c).resolve_right (by rw [hb]; simp)
          refine ⟨by simp, hc, fun x hx hxn => ?_⟩
          rcases List.mem_cons.1 hx with rfl | hx
          · exact beats_refl _
          · exact beats_trans (h3 x hx hxn) hcw
      · rw [if_neg hc]
        simp only [comb]
        refine ⟨by simp [h1], h2, fun x hx hxn => ?_⟩
        rcases List.mem_cons.1 hx with rfl | hx
        · exact absurd hxn hc
        · exact h3 x hx hxn
inductive Rising : List B → Prop
  | nil : Rising []
  | cons {x : B} {xs : List B} (h : ∀ y ∈ xs, bLt x y = true) (hs : Rising xs) : Rising (x :: xs)
theorem mem_insName {n y : B} : ∀ {xs : List B}, y ∈ insName n xs ↔ y = n ∨ y ∈ xs
  | [] => by simp [insName]
  | x :: xs => by
    simp only [insName]
    split
    · simp
    · split
      · simp only [List.mem_cons, mem_insName (xs := xs)]
        constructor
        · rintro (h | h | h) <;> simp [h]
        · rintro (h | h | h) <;> simp [h]
      · rename_i h1 h2
        have : n = x := bLt_total (by simpa using h1) (by simpa using h2)
        subst this
        simp
theorem ins_rising {n : B} : ∀ {xs : List B}, Rising xs → Rising (insName n xs)
  | [], _ => .cons (by simp) .nil
  | x :: xs, h => by
    cases h with
    | cons h hs =>
      simp only [insName]
      split
      · rename_i h1
        refine .cons ?_ (.cons h hs)
        intro y hy
        rcases List.mem_cons.1 hy with rfl | hy
        · exact h1
        · exact bLt_trans h1 (h y hy)
      · split
        · rename_i h1 h2
          refine .cons ?_ (ins_rising hs)
          intro y hy
          rcases mem_insName.1 hy with rfl | hy
          · exact h2
          · exact h y hy
        · exact .cons h hs
theorem namesFrom (cs : List PClaim) : ∀ (acc : List B), Rising acc → Rising (cs.foldl (fun acc c => insName c.d.name acc) acc) ∧ ∀ n, n ∈ cs.foldl (fun acc c => insName c.d.name acc) acc ↔ n ∈ acc ∨ ∃ c ∈ cs, c.d.name = n := by
  induction cs with
  | nil => intro acc h; exact ⟨h, by simp⟩
  | cons c cs ih =>
    intro acc h
    have := ih _ (ins_rising (n := c.d.name) h)
    refine ⟨this.1, fun n => ?_⟩
    simp only [List.foldl_cons]
    rw [this.2, mem_insName]
    simp only [List.mem_cons, exists_eq_or_imp]
    constructor
    · rintro ((h | h) | h)
      · exact .inr (.inl h.symm)
      · exact .inl h
      · exact .inr (.inr h)
    · rintro (h | h | h)
      · exact .inl (.inr h)
      · exact .inl (.inl h.symm)
      · exact .inr h
theorem names_rising (cs : List PClaim) : Rising (namesOf cs) := (namesFrom cs [] .nil).1
theorem mem_names (cs : List PClaim) (n : B) : n ∈ namesOf cs ↔ ∃ c ∈ cs, c.d.name = n := by
  have := (namesFrom cs [] .nil).2 n
  unfold namesOf
  simpa using this
theorem rising_ext : ∀ {xs ys : List B}, Rising xs → Rising ys → (∀ n, n ∈ xs ↔ n ∈ ys) → xs = ys
  | [], [], _, _, _ => rfl
  | [], y :: ys, _, _, h => by have := (h y).2 (by simp); cases this
  | x :: xs, [], _, _, h => by have := (h x).1 (by simp); cases this
  | x :: xs, y :: ys, .cons h1 h2, .cons g1 g2, h => by
    have hxy : x = y := by
      rcases List.mem_cons.1 ((h x).1 (by simp)) with e | e
      · exact e
      · rcases List.mem_cons.1 ((h y).2 (by simp)) with e' | e'
        · exact e'.symm
        · have := bLt_trans (h1 y e') (g1 x e)
          rw [bLt_irrefl] at this; cases this
    subst hxy
    congr 1
    refine rising_ext h2 g2 fun n => ?_
    have hn := h n
    simp only [List.mem_cons] at hn
    constructor
    · intro hx
      rcases hn.1 (.inr hx) with e | e
      · subst e; have := h1 n hx; rw [bLt_irrefl] at this; cases this
      · exact e
    · intro hx
      rcases hn.2 (.inr hx) with e | e
      · subst e; have := g1 n hx; rw [bLt_irrefl] at this; cases this
      · exact e
theorem winner_some {cs : List PClaim} {n : B} : (∃ c ∈ cs, c.d.name = n) ↔ winner cs n ≠ none := by
  have := winner_fact cs n
  cases h : winner cs n with
  | none =>
    rw [h] at this
    simp only [ne_eq, not_true_eq_false, iff_false]
    rintro ⟨c, hc, hn⟩
    exact this c hc hn
  | some w =>
    rw [h] at this
    simp only [ne_eq, reduceCtorEq, not_false_eq_true, iff_true]
    exact ⟨w, this.1, this.2.1⟩
theorem look_ext {cs ds : List PClaim} (h : ∀ n, (winner cs n).map (·.d) = (winner ds n).map (·.d)) : cLook cs = cLook ds := by
  have hn : namesOf cs = namesOf ds := rising_ext (names_rising cs) (names_rising ds) fun n => by
    rw [mem_names, mem_names, winner_some, winner_some]
    have := h n
    cases h1 : winner cs n <;> cases h2 : winner ds n <;> rw [h1, h2] at this <;> simp at this ⊢
  unfold cLook
  rw [hn]
  congr 1
  funext n
  exact h n
theorem look_mem {cs : List PClaim} {d : PDecl} : d ∈ cLook cs ↔ ∃ c, winner cs d.name = some c ∧ c.d = d := by
  unfold cLook
  simp only [List.mem_filterMap, Option.map_eq_some_iff]
  constructor
  · rintro ⟨n, _, c, hc, rfl⟩
    have := winner_fact cs n
    rw [hc] at this
    exact ⟨c, by rw [this.2.1]; exact hc, rfl⟩
  · rintro ⟨c, hc, rfl⟩
    refine ⟨c.d.name, ?_, c, hc, rfl⟩
    rw [mem_names, winner_some, hc]; simp
theorem look_names (cs : List PClaim) : (cLook cs).map (·.name) = namesOf cs := by
  have : ∀ ns : List B, (∀ n ∈ ns, winner cs n ≠ none) → (ns.filterMap fun n => (winner cs n).map (·.d)).map (·.name) = ns := by
    intro ns
    induction ns with
    | nil => intro _; rfl
    | cons n ns ih =>
      intro h
      have h1 := h n (by simp)
      have h2 := winner_fact cs n
      cases hw : winner cs n with
      | none => exact absurd hw h1
      | some c =>
        rw [hw] at h2
        simp only [List.filterMap_cons, hw, Option.map_some, List.map_cons, h2.2.1]
        rw [ih (fun m hm => h m (by simp [hm]))]
  exact this _ fun n hn => winner_some.1 ((mem_names cs n).1 hn)
end Go.Proofs.YtplbdlgmjehckadGreatDoor

namespace Go.Proofs.YtplbdlgmjehckadGreatDoor
set_option linter.unusedVariables false
set_option linter.unusedSimpArgs false
def oneRule (l : List PNode) (k : Int) (media : List B) (r : PRule) : Ans (List PClaim) := ruleClaims l k media [r]
inductive AnsSame : Ans (List PClaim) → Ans (List PClaim) → Prop
  | bad (f : Flt) : AnsSame (.bad f) (.bad f)
  | ok {a b : List PClaim} (h : ∀ n, (winner a n) = (winner b n)) : AnsSame (.ok a) (.ok b)
theorem AnsSame.refl (a : Ans (List PClaim)) : AnsSame a a := by
  cases a with
  | bad f => exact .bad f
  | ok a => exact .ok fun _ => rfl
theorem AnsSame.trans {a b c : Ans (List PClaim)} (h : AnsSame a b) (g : AnsSame b c) : AnsSame a c := by
  cases h with
  | bad f => exact g
  | ok h =>
    cases g with
    | ok g => exact .ok fun n => (h n).trans (g n)
theorem AnsSame.app {a b c d : Ans (List PClaim)} (h : AnsSame a b) (g : AnsSame c d) : AnsSame (a.then fun x => c.then fun y => .ok (x ++ y)) (b.then fun x => d.then fun y => .ok (x ++ y)) := by
  cases h with
  | bad f => exact .bad f
  | ok h =>
    cases g with
    | bad f => exact .bad f
    | ok g => exact .ok fun n => by rw [winner_app, winner_app, h, g]
def splitRule (r : PRule) : List PRule := r.sels.map fun s => { r with sels := [s] }
def ruleCl (d : List PDecl) (w : PWt) : List PClaim := d.map fun x => ⟨x, false, w⟩
def lastBest (d : List PDecl) (n : B) : Option PDecl := (winner (ruleCl d ⟨0, 0, 0⟩) n).map (·.d)
end Go.Proofs.YtplbdlgmjehckadGreatDoor

