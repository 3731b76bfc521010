/-
  Lemmas for the claims of this seat: the program's functions walked, and plain laws. In this order: FoPerm FoOk.
-/
import Derived.Test.YtplbdlgmjehckadGreatDoorPk5
namespace Go.Proofs.YtplbdlgmjehckadGreatDoor
set_option linter.unusedVariables false
set_option linter.unusedSimpArgs false
def treeRules : Nat → PT → List PRule
  | _, .nil => []
  | p, .text _ n => treeRules (p + 1) n
  | p, .note x n => treeRules (p + (4 + x.length + 3)) n
  | p, .elem nm al kids n => treeRules (p + (openText nm al).length) kids ++ treeRules (p + (openText nm al).length + (textP kids).length + (closeText nm).length) n
  | p, .style al inner n => (rulesOf inner).map (PRule.shift (p + (openText styleName al).length)) ++ treeRules (p + (openText styleName al).length + inner.length + (closeText styleName).length) n
theorem treeRules_len : ∀ (T : PT) (p : Nat), (treeRules p T).length = nRulesP T
  | .nil, _ => rfl
  | .text _ n, p => by simp only [treeRules, nRulesP, treeRules_len n]
  | .note _ n, p => by simp only [treeRules, nRulesP, treeRules_len n]
  | .elem _ _ kids n, p => by simp only [treeRules, nRulesP, List.length_append, treeRules_len n, treeRules_len kids]
  | .style _ _ n, p => by simp only [treeRules, nRulesP, List.length_append, List.length_map, treeRules_len n]
theorem styleRules_app (s : B) : ∀ (xs ys : List PNode), styleRules s (xs ++ ys) = (styleRules s xs).then fun a => (styleRules s ys).then fun b => .ok (a ++ b)
  | [], ys => by
    simp only [List.nil_append, styleRules, Ans.ok_then]
    cases styleRules s ys <;> rfl
  | x :: xs, ys => by
    simp only [List.cons_append, styleRules]
    rw [styleRules_app s xs ys]
    split
    · cases sParse (sub s x.inF.toNat x.inT.toNat) with
      | bad f => rfl
      | ok rs =>
        simp only
        cases styleRules s xs with
        | bad f => rfl
        | ok a =>
          simp only [Ans.ok_then]
          cases styleRules s ys with
          | bad f => rfl
          | ok b => simp
    · rfl
theorem style_rules {s : B} : ∀ (T : PT) (d c : Nat) (par : Int) (p q : B), s = p ++ (textP T ++ q) → wfP d T →
    (∀ rs, styleRules s (nodesP par c p.length T) = .ok rs → okP T) ∧ (okP T → styleRules s (nodesP par c p.length T) = .ok (treeRules p.length T))
  | .nil, d, c, par, p, q, hs, hw => ⟨fun _ _ => trivial, fun _ => rfl⟩
  | .text x n, d, c, par, p, q, hs, hw => by
    have e2 : s = (p ++ [x]) ++ (textP n ++ q) := by rw [hs]; simp [textP]
    have := style_rules n d c par (p ++ [x]) q e2 hw.2.2
    simpa [nodesP, treeRules, okP] using this
  | .note x n, d, c, par, p, q, hs, hw => by
    have e2 : s = (p ++ (noteBegin ++ (x ++ noteEnd))) ++ (textP n ++ q) := by rw [hs]; simp [textP]
    have := style_rules n d c par (p ++ (noteBegin ++ (x ++ noteEnd))) q e2 hw.2
    have l1 : (p ++ (noteBegin ++ (x ++ noteEnd))).length = p.length + (4 + x.length + 3) := by simp [noteBegin, noteEnd]; omega
    rw [l1] at this
    simpa only [nodesP, treeRules, okP] using this
  | .elem nm al kids n, d, c, par, p, q, hs, hw => by
    obtain ⟨h1, h2, h3, h4, h5, h6⟩ := hw
    have e2 : s = (p ++ openText nm al) ++ (textP kids ++ (closeText nm ++ (textP n ++ q))) := by rw [hs]; simp [textP]
    have e4 : s = (p ++ openText nm al ++ textP kids ++ closeText nm) ++ (textP n ++ q) := by rw [hs]; simp [textP]
    have l2 : (p ++ openText nm al).length = p.length + (openText nm al).length := by simp
    have l4 : (p ++ openText nm al ++ textP kids ++ closeText nm).length = p.length + (openText nm al).length + (textP kids).length + (closeText nm).length := by simp; omega
    have k1 := style_rules kids _ (c + 1) (c : Int) _ _ e2 h5
    have k2 := style_rules n _ (c + 1 + sizeP kids) par _ _ e4 h6
    rw [l2] at k1
    rw [l4] at k2
    simp only [nodesP, treeRules, okP, styleRules]
    rw [if_neg h3, styleRules_app]
    refine ⟨fun rs h => ?_, fun ho => ?_⟩
    · obtain ⟨a, ha, h⟩ := then_ok h
      obtain ⟨b, hb, h⟩ := then_ok h
      exact ⟨k1.1 _ ha, k2.1 _ hb⟩
    · rw [k1.2 ho.1, k2.2 ho.2]; rfl
  | .style al inner n, d, c, par, p, q, hs, hw => by
    obtain ⟨h1, h4, h5, h6⟩ := hw
    have e2 : s = (p ++ openText styleName al) ++ (inner ++ (closeText styleName ++ (textP n ++ q))) := by rw [hs]; simp [textP]
    have e4 : s = (p ++ openText styleName al ++ inner ++ closeText styleName) ++ (textP n ++ q) := by rw [hs]; simp [textP]
    have l2 : (p ++ openText styleName al).length = p.length + (openText styleName al).length := by simp
    have l4 : (p ++ openText styleName al ++ inner ++ closeText styleName).length = p.length + (openText styleName al).length + inner.length + (closeText styleName).length := by simp; omega
    have k2 := style_rules n _ (c + 1) par _ _ e4 h6
    rw [l4] at k2
    have hsub : sub s (p.length + (openText styleName al).length) (p.length + (openText styleName al).length + inner.length) = inner := by
      have := sub_mid (p ++ openText styleName al) inner (closeText styleName ++ (textP n ++ q))
      rw [← e2, l2] at this
      exact this
    simp only [nodesP, treeRules, okP, styleRules]
    rw [if_pos trivial, Int.toNat_natCast, Int.toNat_natCast, hsub]
    refine ⟨fun rs h => ?_, fun ho => ?_⟩
    · cases hp : sParse inner with
      | bad f => rw [hp] at h; cases h
      | ok rs1 =>
        rw [hp] at h
        obtain ⟨a, ha, h⟩ := then_ok h
        exact ⟨⟨_, rfl⟩, k2.1 _ ha⟩
    · obtain ⟨⟨rs, hr⟩, ho⟩ := ho
      rw [hr, k2.2 ho, rulesOf_ok hr]; rfl
def goneT (g : Nat → Bool) : Nat → Nat → PT → List PEdit
  | _, _, .nil => []
  | i, p, .text _ n => goneT g i (p + 1) n
  | i, p, .note x n => goneT g i (p + (4 + x.length + 3)) n
  | i, p, .elem nm al kids n => goneT g i (p + (openText nm al).length) kids ++ goneT g (i + nRulesP kids) (p + (openText nm al).length + (textP kids).length + (closeText nm).length) n
  | i, p, .style al inner n => ruleEd g (p + (openText styleName al).length) i (rulesOf inner) ++ goneT g (i + (rulesOf inner).length) (p + (openText styleName al).length + inner.length + (closeText styleName).length) n
def ownT (tx : Nat → B) : Nat → Nat → PT → List PEdit
  | _, _, .nil => []
  | c, p, .text _ n => ownT tx c (p + 1) n
  | c, p, .note x n => ownT tx c (p + (4 + x.length + 3)) n
  | c, p, .elem nm al kids n => attrEd (tx c) (p + 1 + nm.length) al ++ (ownT tx (c + 1) (p + (openText nm al).length) kids ++ ownT tx (c + 1 + sizeP kids) (p + (openText nm al).length + (textP kids).length + (closeText nm).length) n)
  | c, p, .style al inner n => attrEd (tx c) (p + 1 + styleName.length) al ++ ownT tx (c + 1) (p + (openText styleName al).length + inner.length + (closeText styleName).length) n
theorem tree_perm (tx : Nat → B) (g : Nat → Bool) : ∀ (T : PT) (c i p : Nat), (treeEd tx g c i p T).Perm (goneT g i p T ++ ownT tx c p T)
  | .nil, _, _, _ => .refl _
  | .text _ n, c, i, p => tree_perm tx g n c i _
  | .note _ n, c, i, p => tree_perm tx g n c i _
  | .elem nm al kids n, c, i, p => by
    have h1 := tree_perm tx g kids (c + 1) i (p + (openText nm al).length)
    have h2 := tree_perm tx g n (c + 1 + sizeP kids) (i + nRulesP kids) (p + (openText nm al).length + (textP kids).length + (closeText nm).length)
    simp only [treeEd, goneT, ownT]
    rw [List.perm_iff_count]
    intro a
    have := h1.count_eq a
    have := h2.count_eq a
    simp only [List.count_append] at *
    omega
  | .style al inner n, c, i, p => by
    have h2 := tree_perm tx g n (c + 1) (i + (rulesOf inner).length) (p + (openText styleName al).length + inner.length + (closeText styleName).length)
    simp only [treeEd, goneT, ownT]
    rw [List.perm_iff_count]
    intro a
    have := h2.count_eq a
    simp only [List.count_append] at *
    omega
theorem gone_one (g : Nat → Bool) (d : Nat) {w : B} : ∀ (rs : List PRule) (i a : Nat), Placed w a rs → (keepP (fun i => !g i) i (rs.map (PRule.shift d))).map goneEd = ruleEd g d i rs
  | [], _, _, _ => rfl
  | r :: rs, i, a, ⟨lo, hi, h1, h2, h3, h4, h5, h6, h7⟩ => by
    simp only [List.map_cons, keepP, ruleEd]
    have ih := gone_one g d rs (i + 1) hi h7
    cases g i with
    | true =>
      simp only [Bool.not_true, Bool.false_eq_true, if_false, if_true, List.map_cons, ih]
      congr 1
      simp only [goneEd, PRule.shift, h1, h2]
      congr 1
    | false => simpa using ih
theorem keepP_len {α : Type} (p : Nat → Bool) (xs : List α) (i : Nat) : (keepP p i xs).length ≤ xs.length := by
  induction xs generalizing i with
  | nil => exact Nat.le_refl _
  | cons x xs ih =>
    simp only [keepP]
    split
    · have := ih (i + 1); simp; omega
    · have := ih (i + 1); simp; omega
theorem gone_tree (g : Nat → Bool) : ∀ (T : PT) (i p : Nat), okP T → (keepP (fun i => !g i) i (treeRules p T)).map goneEd = goneT g i p T
  | .nil, _, _, _ => rfl
  | .text _ n, i, p, ho => gone_tree g n i _ ho
  | .note _ n, i, p, ho => gone_tree g n i _ ho
  | .elem nm al kids n, i, p, ho => by
    simp only [treeRules, goneT]
    rw [keepP_app, List.map_append, gone_tree g kids i _ ho.1, treeRules_len, gone_tree g n _ _ ho.2]
  | .style al inner n, i, p, ⟨⟨rs, hr⟩, ho⟩ => by
    simp only [treeRules, goneT]
    rw [keepP_app, List.map_append, rulesOf_ok hr, gone_one g _ rs i 0 (parse_placed hr), List.length_map, gone_tree g n _ _ ho]
def goes (st : List Bool) (i : Nat) : Bool := st[i]? == some false
theorem gone_from : ∀ (rules : List PRule) (pre st : List Bool), st.length = rules.length → goneR rules st = keepP (fun i => !goes (pre ++ st) i) pre.length rules
  | [], _, _, _ => by cases ‹List Bool› <;> rfl
  | r :: rs, pre, [], h => by simp at h
  | r :: rs, pre, b :: bs, h => by
    have ih := gone_from rs (pre ++ [b]) bs (by simpa using h)
    rw [List.append_assoc, List.singleton_append, List.length_append] at ih
    have hg : goes (pre ++ b :: bs) pre.length = !b := by
      unfold goes
      rw [List.getElem?_append_right (Nat.le_refl _), Nat.sub_self]
      cases b <;> rfl
    simp only [goneR, keepP, hg, Bool.not_not]
    cases b with
    | true => simpa using ih
    | false => simpa using ih
theorem gone_keep {rules : List PRule} {st : List Bool} (h : st.length = rules.length) : goneR rules st = keepP (fun i => !goes st i) 0 rules := gone_from rules [] st h
def ownL (tx : Nat → B) : Nat → List PNode → List PEdit
  | _, [] => []
  | k, n :: ns => (fOwn n (tx k)).toList ++ ownL tx (k + 1) ns
theorem ownL_app (tx : Nat → B) : ∀ (xs ys : List PNode) (k : Nat), ownL tx k (xs ++ ys) = ownL tx k xs ++ ownL tx (k + xs.length) ys
  | [], ys, k => rfl
  | x :: xs, ys, k => by
    simp only [List.cons_append, ownL, ownL_app tx xs ys, List.append_assoc, List.length_cons]
    rw [show k + 1 + xs.length = k + (xs.length + 1) from by omega]
def ownStep (p : Int × Int) (a : PAttr) : Int × Int := if a.name = styleName then (a.lo, a.hi) else p
theorem own_no : ∀ (al : List (B × B)) (q : Nat), hasStyle al = false → pGet (attrsAt q al) styleName = ([], false) ∧ ∀ p, (attrsAt q al).foldl ownStep p = p
  | [], q, _ => ⟨rfl, fun _ => rfl⟩
  | a :: al, q, h => by
    rw [hasStyle_cons, Bool.or_eq_false_iff] at h
    have hne : ¬ a.1 = styleName := by simpa using h.1
    have ih := own_no al (q + (attrText a).length) h.2
    refine ⟨?_, fun p => ?_⟩
    · unfold pGet at ih ⊢
      simp only [attrsAt, List.find?_cons, h.1]
      exact ih.1
    · simp only [attrsAt, List.foldl_cons]
      rw [show ownStep p ⟨a.1, a.2, (q : Int), ((q + (attrText a).length : Nat) : Int)⟩ = p from if_neg hne]
      exact ih.2 p
theorem own_yes (t : B) : ∀ (al : List (B × B)) (q : Nat), hasStyle al = true → (al.map (·.1)).Nodup → ∃ (v : B) (lo hi : Nat), pGet (attrsAt q al) styleName = (v, true) ∧ (∀ p, (attrsAt q al).foldl ownStep p = ((lo : Int), (hi : Int))) ∧
    attrEdF t q al = (if v = t then [] else [⟨lo, hi, if t = [] then [] else newStyle t⟩]) ∧ (styleName, v) ∈ al
  | [], q, h, _ => by cases h
  | a :: al, q, h, hn => by
    rw [List.map_cons, List.nodup_cons] at hn
    by_cases ha : a.1 = styleName
    · have hno : hasStyle al = false := noStyle_of (by rw [← ha]; exact hn.1)
      have := (own_no al (q + (attrText a).length) hno).2
      refine ⟨a.2, q, q + (attrText a).length, ?_, fun p => ?_, ?_, by rw [← ha]; simp⟩
      · unfold pGet
        simp [attrsAt, List.find?_cons, ha]
      · simp only [attrsAt, List.foldl_cons]
        rw [this, show ownStep p ⟨a.1, a.2, (q : Int), ((q + (attrText a).length : Nat) : Int)⟩ = _ from if_pos ha]
      · simp only [attrEdF]; rw [if_pos ha]
    · have h' : hasStyle al = true := by rw [hasStyle_cons] at h; simpa [ha] using h
      obtain ⟨v, lo, hi, h1, h2, h3, h4⟩ := own_yes t al (q + (attrText a).length) h' hn.2
      refine ⟨v, lo, hi, ?_, fun p => ?_, ?_, by simp [h4]⟩
      · unfold pGet at h1 ⊢
        have hb : (a.1 == styleName) = false := by simpa using ha
        simp only [attrsAt, List.find?_cons, hb]
        exact h1
      · simp only [attrsAt, List.foldl_cons]
        exact h2 _
      · simp only [attrEdF]; rw [if_neg ha]; exact h3
theorem own_attr (t : B) {al : List (B × B)} (hn : (al.map (·.1)).Nodup) (nm : B) (par : Int) (q : Nat) (a b : Int) : (fOwn ⟨nm, par, attrsAt q al, (q : Int), a, b⟩ t).toList = attrEd t q al := by
  unfold fOwn attrEd ownAt
  show (if (pGet (attrsAt q al) styleName).2 = true ∧ (pGet (attrsAt q al) styleName).1 = t ∨ (pGet (attrsAt q al) styleName).2 = false ∧ t = [] then none
    else some (⟨((attrsAt q al).foldl ownStep ((q : Int), (q : Int))).1.toNat, ((attrsAt q al).foldl ownStep ((q : Int), (q : Int))).2.toNat, if t = [] then [] else newStyle t⟩ : PEdit)).toList = _
  cases h : hasStyle al with
  | false =>
    obtain ⟨h1, h2⟩ := own_no al q h
    rw [h1, h2]
    simp only [Bool.false_eq_true, false_and, true_and, false_or, if_false, Int.toNat_natCast]
    split
    · rfl
    · rfl
  | true =>
    obtain ⟨v, lo, hi, h1, h2, h3, _⟩ := own_yes t al q h hn
    rw [h1, h2, h3]
    simp only [true_and, Bool.true_eq_false, false_and, or_false, if_true, Int.toNat_natCast]
    split
    · rfl
    · rfl
theorem own_tree (tx : Nat → B) : ∀ (T : PT) (d c p : Nat) (par : Int), wfP d T → ownL tx c (nodesP par c p T) = ownT tx c p T
  | .nil, _, _, _, _, _ => rfl
  | .text _ n, d, c, p, par, hw => own_tree tx n d c _ par hw.2.2
  | .note _ n, d, c, p, par, hw => own_tree tx n d c _ par hw.2
  | .elem nm al kids n, d, c, p, par, hw => by
    obtain ⟨h1, h2, h3, h4, h5, h6⟩ := hw
    simp only [nodesP, ownL, ownT]
    rw [own_attr _ h4.apart, ownL_app, own_tree tx kids _ _ _ _ h5, nodesP_len, own_tree tx n _ _ _ _ h6]
  | .style al inner n, d, c, p, par, hw => by
    obtain ⟨h1, h4, h5, h6⟩ := hw
    simp only [nodesP, ownL, ownT]
    rw [own_attr _ h4.apart, own_tree tx n _ _ _ _ h6]
theorem ownsEd_ok {l : List PNode} {gone : List PRule} : ∀ {ns : List PNode} {k : Nat} {es : List PEdit}, ownsEd l gone k ns = .ok es →
    es = ownL (fun k => (styleText l k gone).1) k ns ∧ ∀ j n, ns[j]? = some n → (styleText l (k + j) gone).2 = true ∧ ¬ ((pGet n.attrs styleName).2 = false ∧ n.attrs.length = 8 ∧ (styleText l (k + j) gone).1 ≠ [])
  | [], k, es, h => by cases h; exact ⟨rfl, fun j n hn => by simp at hn⟩
  | n :: ns, k, es, h => by
    simp only [ownsEd] at h
    split at h
    · cases h
    · rename_i hc
      obtain ⟨fs, hf, h⟩ := then_ok h
      cases h
      obtain ⟨rfl, ih⟩ := ownsEd_ok hf
      rw [not_or] at hc
      refine ⟨rfl, fun j m hm => ?_⟩
      cases j with
      | zero =>
        simp only [List.getElem?_cons_zero, Option.some.injEq] at hm
        subst hm
        exact ⟨by simpa using hc.1, hc.2⟩
      | succ j =>
        have := ih j m (by simpa using hm)
        rw [show k + 1 + j = k + (j + 1) from by omega] at this
        exact this
theorem EdRise.app {b : Nat} : ∀ {xs ys : List PEdit}, EdRise xs → EdRise ys → (∀ x ∈ xs, x.lo < b) → (∀ y ∈ ys, b ≤ y.lo) → EdRise (xs ++ ys)
  | [], ys, _, hy, _, _ => hy
  | x :: xs, ys, .cons h1 h2, hy, hx, hb => by
    refine .cons (fun y hm => ?_) (EdRise.app h2 hy (fun z hz => hx z (by simp [hz])) hb)
    rcases List.mem_append.1 hm with hm | hm
    · exact h1 y hm
    · have := hx x (by simp); have := hb y hm; omega
theorem EdRise.one (e : PEdit) : EdRise [e] := .cons (by simp) .nil
theorem attrEdF_in (t : B) : ∀ (al : List (B × B)) (q : Nat), EdRise (attrEdF t q al) ∧ ∀ e ∈ attrEdF t q al, q ≤ e.lo ∧ e.lo < q + (attrsText al).length
  | [], q => ⟨.nil, by simp [attrEdF]⟩
  | a :: al, q => by
    have hpos := attrText_pos a
    simp only [attrEdF]
    split
    · split
      · exact ⟨.nil, by simp⟩
      · refine ⟨.one _, fun e he => ?_⟩
        simp at he; subst he
        simp [attrsText]; omega
    · have := attrEdF_in t al (q + (attrText a).length)
      refine ⟨this.1, fun e he => ?_⟩
      have := this.2 e he
      simp [attrsText]; omega
theorem attrEd_in (t : B) (al : List (B × B)) (q : Nat) : EdRise (attrEd t q al) ∧ ∀ e ∈ attrEd t q al, q ≤ e.lo ∧ e.lo < q + (attrsText al).length + 1 := by
  unfold attrEd
  split
  · refine ⟨(attrEdF_in t al q).1, fun e he => ?_⟩
    have := (attrEdF_in t al q).2 e he; omega
  · split
    · exact ⟨.nil, by simp⟩
    · refine ⟨.one _, fun e he => ?_⟩
      simp at he; subst he
      simp; omega
theorem ruleEd_in (g : Nat → Bool) (d : Nat) {w : B} : ∀ (rs : List PRule) (i a : Nat), Placed w a rs → EdRise (ruleEd g d i rs) ∧ ∀ e ∈ ruleEd g d i rs, d + a ≤ e.lo ∧ e.lo < d + w.length
  | [], _, _, _ => ⟨.nil, by simp [ruleEd]⟩
  | r :: rs, i, a, ⟨lo, hi, h1, h2, h3, h4, h5, h6, h7⟩ => by
    have ih := ruleEd_in g d rs (i + 1) hi h7
    simp only [ruleEd]
    split
    · refine ⟨.cons (fun y hy => ?_) ih.1, fun e he => ?_⟩
      · have := ih.2 y hy
        simp only [h1, Int.toNat_natCast]; omega
      · rcases List.mem_cons.1 he with rfl | he
        · simp only [h1, Int.toNat_natCast]; omega
        · have := ih.2 e he; omega
    · refine ⟨ih.1, fun e he => ?_⟩
      have := ih.2 e he; omega
theorem tree_rise (tx : Nat → B) (g : Nat → Bool) : ∀ (T : PT) (c i p : Nat), okP T → EdRise (treeEd tx g c i p T) ∧ ∀ e ∈ treeEd tx g c i p T, p ≤ e.lo ∧ e.lo < p + (textP T).length
  | .nil, _, _, _, _ => ⟨.nil, by simp [treeEd]⟩
  | .text _ n, c, i, p, ho => by
    have := tree_rise tx g n c i (p + 1) ho
    refine ⟨this.1, fun e he => ?_⟩
    have := this.2 e he
    simp [textP]; omega
  | .note x n, c, i, p, ho => by
    have := tree_rise tx g n c i (p + (4 + x.length + 3)) ho
    refine ⟨this.1, fun e he => ?_⟩
    have := this.2 e he
    simp [textP, noteBegin, noteEnd]; omega
  | .elem nm al kids n, c, i, p, ho => by
    have k1 := attrEd_in (tx c) al (p + 1 + nm.length)
    have k2 := tree_rise tx g kids (c + 1) i (p + (openText nm al).length) ho.1
    have k3 := tree_rise tx g n (c + 1 + sizeP kids) (i + nRulesP kids) (p + (openText nm al).length + (textP kids).length + (closeText nm).length) ho.2
    have lo : (openText nm al).length = 1 + nm.length + (attrsText al).length + 1 := by simp [openText]; omega
    have lt : (textP (.elem nm al kids n)).length = (openText nm al).length + (textP kids).length + (closeText nm).length + (textP n).length := by simp [textP]; omega
    simp only [treeEd]
    refine ⟨EdRise.app (b := p + (openText nm al).length) k1.1 (EdRise.app (b := p + (openText nm al).length + (textP kids).length) k2.1 k3.1 (fun e he => (k2.2 e he).2) (fun e he => by have := (k3.2 e he).1; omega)) (fun e he => by have := (k1.2 e he).2; omega) (fun e he => ?_), fun e he => ?_⟩
    · rcases List.mem_append.1 he with he | he
      · exact (k2.2 e he).1
      · have := (k3.2 e he).1; omega
    · rcases List.mem_append.1 he with he | he
      · have := k1.2 e he; omega
      · rcases List.mem_append.1 he with he | he
        · have := k2.2 e he; omega
        · have := k3.2 e he; omega
  | .style al inner n, c, i, p, ⟨⟨rs, hr⟩, ho⟩ => by
    have k1 := attrEd_in (tx c) al (p + 1 + styleName.length)
    have k2 := ruleEd_in g (p + (openText styleName al).length) rs i 0 (parse_placed hr)
    have k3 := tree_rise tx g n (c + 1) (i + rs.length) (p + (openText styleName al).length + inner.length + (closeText styleName).length) ho
    have lo : (openText styleName al).length = 1 + styleName.length + (attrsText al).length + 1 := by simp [openText]; omega
    have lt : (textP (.style al inner n)).length = (openText styleName al).length + inner.length + (closeText styleName).length + (textP n).length := by simp [textP]; omega
    simp only [treeEd, rulesOf_ok hr]
    refine ⟨EdRise.app (b := p + (openText styleName al).length) k1.1 (EdRise.app (b := p + (openText styleName al).length + inner.length) k2.1 k3.1 (fun e he => (k2.2 e he).2) (fun e he => by have := (k3.2 e he).1; omega)) (fun e he => by have := (k1.2 e he).2; omega) (fun e he => ?_), fun e he => ?_⟩
    · rcases List.mem_append.1 he with he | he
      · have := (k2.2 e he).1; omega
      · have := (k3.2 e he).1; omega
    · rcases List.mem_append.1 he with he | he
      · have := k1.2 e he; omega
      · rcases List.mem_append.1 he with he | he
        · have := k2.2 e he; omega
        · have := k3.2 e he; omega
structure ReadAs (s : B) (l : List PNode) (rules : List PRule) (T : PT) : Prop where
  len : s.length ≤ 6000
  wf : wfP 1 T
  ok : okP T
  few : sizeP T ≤ 120
  text : s = textP T
  nodes : l = nodesP (-1) 0 0 T
  rulesEq : rules = treeRules 0 T
  most : rules.length ≤ 60
  plain : rulesBad rules = none
  own : nodesBad l = none
theorem read_as {s : B} {l : List PNode} {rules : List PRule} (h : fRead s = .ok (l, rules)) : ∃ T, ReadAs s l rules T := by
  unfold fRead at h
  obtain ⟨l1, h1, h⟩ := then_ok h
  obtain ⟨rs, h2, h⟩ := then_ok h
  obtain ⟨hl, T, t1, t2, t3, t4⟩ := page_inv h1
  split at h
  · cases h
  · rename_i hn
    cases h3 : rulesBad rs with
    | some f => rw [h3] at h; cases h
    | none =>
      cases h4 : nodesBad l1 with
      | some f => rw [h3, h4] at h; cases h
      | none =>
        rw [h3, h4] at h
        cases h
        have hk := style_rules (s := s) T 1 0 (-1) [] [] (by simpa using t3) t1
        rw [List.length_nil, ← t4] at hk
        have ho := hk.1 _ h2
        have := hk.2 ho
        rw [h2] at this
        cases this
        exact ⟨T, hl, t1, ho, t2, t3, t4, rfl, by omega, h3, h4⟩
theorem as_read {s : B} {l : List PNode} {rules : List PRule} {T : PT} (h : ReadAs s l rules T) : fRead s = .ok (l, rules) := by
  obtain ⟨h1, h2, h3, h4, rfl, rfl, rfl, h5, h6, h7⟩ := h
  unfold fRead
  rw [page_read h2 h1 h4, Ans.ok_then]
  have hk := style_rules (s := textP T) T 1 0 (-1) [] [] (by simp) h2
  rw [List.length_nil] at hk
  rw [hk.2 h3, Ans.ok_then, if_neg (by omega), h6]
  simp only [h7]
theorem fold_as {s t : B} {l : List PNode} {rules : List PRule} {st : List Bool} {T : PT} (h : ReadAs s l rules T) (hs : st.length = rules.length) (hf : fFold s l rules st = .ok t) :
    t = textP (foldP (fun k => (styleText l k (goneR rules st)).1) (goes st) 0 0 T) ∧ t.length ≤ 6000 ∧
    ∀ j n, l[j]? = some n → (styleText l j (goneR rules st)).2 = true ∧ ¬ ((pGet n.attrs styleName).2 = false ∧ n.attrs.length = 8 ∧ (styleText l j (goneR rules st)).1 ≠ []) := by
  unfold fFold at hf
  obtain ⟨es, he, hf⟩ := then_ok hf
  obtain ⟨rfl, hc⟩ := ownsEd_ok he
  have ht : sortEd ((goneR rules st).map goneEd ++ ownL (fun k => (styleText l k (goneR rules st)).1) 0 l) = treeEd (fun k => (styleText l k (goneR rules st)).1) (goes st) 0 0 0 T := by
    refine sortEd_eq (tree_rise _ _ T 0 0 0 h.ok).1 ?_
    refine (tree_perm _ _ T 0 0 0).trans ?_
    rw [← gone_tree _ T 0 0 h.ok, ← h.rulesEq, ← gone_keep hs, ← own_tree _ T 1 0 0 (-1) h.wf, ← h.nodes]
  rw [ht] at hf
  have hp := page_makes (fun k => (styleText l k (goneR rules st)).1) (goes st) h.wf h.ok
  rw [← h.text] at hp
  rw [hp.2] at hf
  split at hf
  · cases hf
  · cases hf
    refine ⟨rfl, by omega, fun j n hn => ?_⟩
    have := hc j n hn
    rwa [Nat.zero_add] at this
end Go.Proofs.YtplbdlgmjehckadGreatDoor

namespace Go.Proofs.YtplbdlgmjehckadGreatDoor
set_option linter.unusedVariables false
set_option linter.unusedSimpArgs false
def TestOk (t : PTest) : Prop := (t.kind = 4 ∨ t.kind = 5) → t.name ≠ styleName
def PartOk (p : PPart) : Prop := ∀ t ∈ p.tests, TestOk t
def SelOk (s : PSel) : Prop := ∀ p ∈ s, PartOk p
theorem attrTest_ok {l l' : B} {a a' : Nat} {t : PTest} (h : sAttrTest l a = .ok (t, l', a')) : TestOk t := by
  unfold sAttrTest at h
  obtain ⟨⟨nm, l1, a1⟩, h1, h⟩ := then_ok h
  simp only at h
  split at h
  · cases h
  · rename_i hn
    split at h
    · obtain ⟨⟨v, l2, a2⟩, h2, h⟩ := then_ok h
      obtain ⟨⟨l3, a3⟩, h3, h⟩ := then_ok h
      cases h; exact fun _ => hn
    · obtain ⟨⟨l3, a3⟩, h3, h⟩ := then_ok h
      cases h; exact fun _ => hn
theorem test_ok {l l' : B} {a a' : Nat} {t : PTest} (h : sTest l a = .ok (some t, l', a')) : TestOk t := by
  unfold sTest at h
  split at h
  · obtain ⟨⟨nm, l1, a1⟩, h1, h⟩ := then_ok h
    cases h; intro hk; simp at hk
  · split at h
    · obtain ⟨⟨nm, l1, a1⟩, h1, h⟩ := then_ok h
      cases h; intro hk; simp at hk
    · split at h
      · cases h; intro hk; simp at hk
      · split at h
        · obtain ⟨⟨t1, l1, a1⟩, h1, h⟩ := then_ok h
          cases h; exact attrTest_ok h1
        · cases h
theorem testsL_ok : ∀ (f : Nat) (ts : List PTest) (q : Bool) (l : B) (a : Nat) (v : List PTest) (l' : B) (a' : Nat), (∀ t ∈ ts, TestOk t) → sTestsL f ts q l a = .ok (v, l', a') → ∀ t ∈ v, TestOk t := by
  intro f
  induction f with
  | zero => intro ts q l a v l' a' _ h; cases h
  | succ f ih =>
    intro ts q l a v l' a' ht h
    rw [sTestsL] at h
    obtain ⟨⟨x, l1, a1⟩, h1, h⟩ := then_ok h
    cases x with
    | none =>
      simp only at h
      split at h
      · cases h; exact ht
      · cases h
    | some x =>
      simp only at h
      split at h
      · cases h
      · refine ih _ _ _ _ _ _ _ ?_ h
        intro t hm
        rcases List.mem_append.1 hm with hm | hm
        · exact ht t hm
        · simp at hm; subst hm; exact test_ok h1
theorem tests_ok {l l' : B} {a a' : Nat} {v : List PTest} (h : sTests l a = .ok (v, l', a')) : ∀ t ∈ v, TestOk t := by
  unfold sTests at h
  obtain ⟨⟨ts, q, l1, a1⟩, h1, h⟩ := then_ok h
  refine testsL_ok _ _ _ _ _ _ _ _ ?_ h
  unfold sHead at h1
  split at h1
  · cases h1; simp
  · split at h1
    · cases h1; simp
    · obtain ⟨⟨nm, l2, a2⟩, h2, h1⟩ := then_ok h1
      cases h1
      intro t ht
      simp at ht; subst ht
      intro hk; simp at hk
theorem selL_ok : ∀ (f : Nat) (ps : List PPart) (l : B) (a : Nat) (v : PSel) (l' : B) (a' : Nat), SelOk ps → sSelL f ps l a = .ok (v, l', a') → SelOk v := by
  intro f
  induction f with
  | zero => intro ps l a v l' a' _ h; cases h
  | succ f ih =>
    intro ps l a v l' a' ht h
    rw [sSelL] at h
    obtain ⟨⟨j, l1, a1⟩, h1, h⟩ := then_ok h
    cases j with
    | none => simp only at h; cases h; exact ht
    | some j =>
      simp only at h
      split at h
      · cases h
      · obtain ⟨⟨ts, l2, a2⟩, h2, h⟩ := then_ok h
        refine ih _ _ _ _ _ _ ?_ h
        intro p hp
        rcases List.mem_append.1 hp with hp | hp
        · exact ht p hp
        · simp at hp; subst hp; exact tests_ok h2
theorem sel_ok {l l' : B} {a a' : Nat} {v : PSel} (h : sSel l a = .ok (v, l', a')) : SelOk v := by
  unfold sSel at h
  obtain ⟨⟨ts, l1, a1⟩, h1, h⟩ := then_ok h
  refine selL_ok _ _ _ _ _ _ _ ?_ h
  intro p hp
  simp at hp; subst hp; exact tests_ok h1
theorem selsL_ok : ∀ (f : Nat) (ss : List PSel) (l : B) (a : Nat) (v : List PSel) (l' : B) (a' : Nat), (∀ s ∈ ss, SelOk s) → sSelsL f ss l a = .ok (v, l', a') → ∀ s ∈ v, SelOk s := by
  intro f
  induction f with
  | zero => intro ss l a v l' a' _ h; cases h
  | succ f ih =>
    intro ss l a v l' a' hs h
    rw [sSelsL] at h
    split at h
    · cases h
    · obtain ⟨⟨x, l1, a1⟩, h1, h⟩ := then_ok h
      have hx : ∀ s ∈ ss ++ [x], SelOk s := by
        intro s hm
        rcases List.mem_append.1 hm with hm | hm
        · exact hs s hm
        · simp at hm; subst hm; exact sel_ok h1
      simp only at h
      split at h
      · obtain ⟨⟨l2, a2⟩, h2, h⟩ := then_ok h
        exact ih _ _ _ _ _ _ hx h
      · cases h; exact hx
structure RuleOk (r : PRule) : Prop where
  sels : ∀ s ∈ r.sels, SelOk s
  decls : ∀ d ∈ r.decls, DeclOk d
theorem ruleT_ok {t : B} {ss : List PSel} {ds : List PDecl} (h : RuleT t ss ds) (md : B) (lo hi : Int) : RuleOk ⟨md, ss, ds, lo, hi⟩ := by
  have := h.read [] [] 0
  unfold sRule at this
  obtain ⟨⟨ss1, l1, a1⟩, h1, h⟩ := then_ok this
  obtain ⟨⟨l2, a2⟩, h2, h⟩ := then_ok h
  obtain ⟨⟨ds1, l3, a3⟩, h3, h⟩ := then_ok h
  obtain ⟨⟨l4, a4⟩, h4, h⟩ := then_ok h
  simp only [Ans.ok.injEq, Prod.mk.injEq, PRule.mk.injEq] at h
  obtain ⟨⟨_, rfl, rfl, _⟩, _⟩ := h
  exact ⟨selsL_ok _ _ _ _ _ _ _ (by simp) h1, (decls_ok_of h3).1⟩
theorem placed_ok {s : B} : ∀ {rs : List PRule} {a : Nat}, Placed s a rs → ∀ r ∈ rs, RuleOk r
  | [], _, _, r, hr => by cases hr
  | x :: rs, a, ⟨lo, hi, h1, h2, h3, h4, h5, h6, h7⟩, r, hr => by
    rcases List.mem_cons.1 hr with rfl | hr
    · exact ruleT_ok h6 r.media r.lo r.hi
    · exact placed_ok h7 r hr
theorem RuleOk.shift {r : PRule} (h : RuleOk r) (d : Nat) : RuleOk (r.shift d) := ⟨h.sels, h.decls⟩
theorem treeRules_ok : ∀ (T : PT) (p : Nat), okP T → ∀ r ∈ treeRules p T, RuleOk r
  | .nil, _, _, r, hr => by cases hr
  | .text _ n, p, ho, r, hr => treeRules_ok n _ ho r hr
  | .note _ n, p, ho, r, hr => treeRules_ok n _ ho r hr
  | .elem nm al kids n, p, ho, r, hr => by
    rcases List.mem_append.1 hr with hr | hr
    · exact treeRules_ok kids _ ho.1 r hr
    · exact treeRules_ok n _ ho.2 r hr
  | .style al inner n, p, ⟨⟨rs, hp⟩, ho⟩, r, hr => by
    rcases List.mem_append.1 hr with hr | hr
    · rw [rulesOf_ok hp] at hr
      obtain ⟨q, hq, rfl⟩ := List.mem_map.1 hr
      exact (placed_ok (parse_placed hp) q hq).shift _
    · exact treeRules_ok n _ ho r hr
theorem words_joinW : ∀ {ws : List B}, ws ≠ [] → (∀ w ∈ ws, WordOk w) → splitB (joinW ws) = ws := by
  have hj : ∀ ws : List B, joinW ws = joinB ws := by
    intro ws
    induction ws with
    | nil => rfl
    | cons w ws ih =>
      cases ws with
      | nil => rfl
      | cons x ws => simp only [joinW, joinB, ih]
  intro ws hn hw
  rw [hj]
  refine splitB_join hn fun w hm c hc => ?_
  have := (hw w hm).2 c hc
  rintro rfl
  exact absurd this (by decide)
theorem word_valOk {w : B} (h : WordOk w) (hl : w.length ≤ 60) : ValOk w := ⟨[w], by simp, by simpa using h, by simp [joinW], hl⟩
theorem joinW_le {ws : List B} {w : B} (h : w ∈ ws) : w.length ≤ (joinW ws).length := by
  induction ws with
  | nil => cases h
  | cons x ws ih =>
    cases ws with
    | nil => simp at h; subst h; simp [joinW]
    | cons y ws =>
      rcases List.mem_cons.1 h with rfl | h
      · simp [joinW]
      · have := ih h
        simp only [joinW, List.length_append] at this ⊢
        omega
theorem expand_ok {d : PDecl} {x : List PDecl} (hd : DeclOk d) (h : pExpand d = some x) : ∀ y ∈ x, DeclOk y := by
  unfold pExpand at h
  split at h
  · obtain ⟨ws, hn, hw, hv, hl⟩ := hd.2
    rw [hv, words_joinW hn hw] at h
    rw [hv] at hl
    have hall : ∀ w ∈ ws, ValOk w := fun w hm => word_valOk (hw w hm) (Nat.le_trans (joinW_le hm) hl)
    have hnm : NameOk edgeTop ∧ NameOk edgeRight ∧ NameOk edgeBottom ∧ NameOk edgeLeft := by
      refine ⟨⟨?_, ?_, ?_⟩, ⟨?_, ?_, ?_⟩, ⟨?_, ?_, ?_⟩, ⟨?_, ?_, ?_⟩⟩ <;> decide
    have hed : ∀ a b c e st, a ∈ ws → b ∈ ws → c ∈ ws → e ∈ ws → ∀ y ∈ edges a b c e st, DeclOk y := by
      intro a b c e st ha hb hc he y hy
      simp only [edges, List.mem_cons, List.not_mem_nil, or_false] at hy
      rcases hy with rfl | rfl | rfl | rfl
      · exact ⟨hnm.1, hall _ ha⟩
      · exact ⟨hnm.2.1, hall _ hb⟩
      · exact ⟨hnm.2.2.1, hall _ hc⟩
      · exact ⟨hnm.2.2.2, hall _ he⟩
    split at h
    all_goals first
      | (cases h; apply hed <;> simp)
      | cases h
  · cases h
    intro y hy
    simp at hy; subst hy; exact hd
theorem all_ok : ∀ {l x : List PDecl}, (∀ d ∈ l, DeclOk d) → pAll l = some x → ∀ y ∈ x, DeclOk y
  | [], x, _, h, y, hy => by cases h; cases hy
  | d :: ds, x, hd, h, y, hy => by
    obtain ⟨a, b, h1, h2, rfl⟩ := all_cons h
    rcases List.mem_append.1 hy with hy | hy
    · exact expand_ok (hd d (by simp)) h1 y hy
    · exact all_ok (fun z hz => hd z (by simp [hz])) h2 y hy
def pr (a : PAttr) : B × B := (a.name, a.val)
structure NodeRel (t : B) (n m : PNode) : Prop where
  name : m.name = n.name
  parent : m.parent = n.parent
  attrs : m.attrs.map pr = setStyle (n.attrs.map pr) t
def RelL (tx : Nat → B) : Nat → List PNode → List PNode → Prop
  | _, [], [] => True
  | c, x :: xs, y :: ys => NodeRel (tx c) x y ∧ RelL tx (c + 1) xs ys
  | _, _, _ => False
theorem RelL.app {tx : Nat → B} : ∀ {xs xs' ys ys' : List PNode} {c : Nat}, RelL tx c xs xs' → RelL tx (c + xs.length) ys ys' → RelL tx c (xs ++ ys) (xs' ++ ys')
  | [], [], _, _, _, _, h => h
  | [], _ :: _, _, _, _, h, _ => h.elim
  | _ :: _, [], _, _, _, h, _ => h.elim
  | x :: xs, y :: ys, _, _, c, ⟨h1, h2⟩, h => ⟨h1, RelL.app h2 (by rw [show c + 1 + xs.length = c + (x :: xs).length from by simp; omega]; exact h)⟩
theorem RelL.len {tx : Nat → B} : ∀ {xs ys : List PNode} {c : Nat}, RelL tx c xs ys → xs.length = ys.length
  | [], [], _, _ => rfl
  | [], _ :: _, _, h => h.elim
  | _ :: _, [], _, h => h.elim
  | x :: xs, y :: ys, c, ⟨_, h⟩ => by simp [h.len]
theorem RelL.get {tx : Nat → B} : ∀ {xs ys : List PNode} {c j : Nat} {n : PNode}, RelL tx c xs ys → xs[j]? = some n → ∃ m, ys[j]? = some m ∧ NodeRel (tx (c + j)) n m
  | [], [], _, _, _, _, h => by simp at h
  | [], _ :: _, _, _, _, h, _ => h.elim
  | _ :: _, [], _, _, _, h, _ => h.elim
  | x :: xs, y :: ys, c, 0, n, ⟨h, _⟩, hn => by
    simp only [List.getElem?_cons_zero, Option.some.injEq] at hn
    subst hn; exact ⟨y, rfl, h⟩
  | x :: xs, y :: ys, c, j + 1, n, ⟨_, h⟩, hn => by
    obtain ⟨m, h1, h2⟩ := h.get (j := j) (by simpa using hn)
    exact ⟨m, by simpa using h1, by rw [show c + (j + 1) = c + 1 + j from by omega]; exact h2⟩
theorem attrsAt_pr : ∀ (al : List (B × B)) (p : Nat), (attrsAt p al).map pr = al
  | [], _ => rfl
  | a :: al, p => by simp only [attrsAt, List.map_cons, attrsAt_pr al]; rfl
theorem size_fold (tx : Nat → B) (g : Nat → Bool) : ∀ (T : PT) (c i : Nat), sizeP (foldP tx g c i T) = sizeP T
  | .nil, _, _ => rfl
  | .text _ n, c, i => size_fold tx g n c i
  | .note _ n, c, i => size_fold tx g n c i
  | .elem _ _ kids n, c, i => by simp only [foldP, sizeP, size_fold tx g kids, size_fold tx g n]
  | .style _ _ n, c, i => by simp only [foldP, sizeP, size_fold tx g n]
theorem nodes_rel (tx : Nat → B) (g : Nat → Bool) : ∀ (T : PT) (c i p p' : Nat) (par : Int), RelL tx c (nodesP par c p T) (nodesP par c p' (foldP tx g c i T))
  | .nil, _, _, _, _, _ => trivial
  | .text _ n, c, i, p, p', par => nodes_rel tx g n c i _ _ par
  | .note _ n, c, i, p, p', par => nodes_rel tx g n c i _ _ par
  | .elem nm al kids n, c, i, p, p', par => by
    simp only [foldP, nodesP, size_fold]
    refine ⟨⟨rfl, rfl, by simp only [attrsAt_pr]⟩, RelL.app (nodes_rel tx g kids _ _ _ _ _) ?_⟩
    rw [nodesP_len]
    exact nodes_rel tx g n _ _ _ _ _
  | .style al inner n, c, i, p, p', par => by
    simp only [foldP, nodesP]
    exact ⟨⟨rfl, rfl, by simp only [attrsAt_pr]⟩, nodes_rel tx g n _ _ _ _ _⟩
def getP (al : List (B × B)) (name : B) : B × Bool := match al.find? (fun a => a.1 == name) with
  | some a => (a.2, true)
  | none => ([], false)
theorem pGet_pr (as : List PAttr) (name : B) : pGet as name = getP (as.map pr) name := by
  unfold pGet getP
  induction as with
  | nil => rfl
  | cons a as ih =>
    simp only [List.map_cons, List.find?_cons, pr]
    cases a.name == name with
    | true => rfl
    | false => exact ih
theorem getP_set {al : List (B × B)} {t name : B} (hn : name ≠ styleName) : getP (setStyle al t) name = getP al name := by
  have hb : (styleName == name) = false := by simpa using fun e => hn e.symm
  have hfilter : ∀ al : List (B × B), (al.filter (fun a => !(a.1 == styleName) || a.2.isEmpty)).find? (fun a => a.1 == name) = al.find? (fun a => a.1 == name) := by
    intro al
    induction al with
    | nil => rfl
    | cons a al ih =>
      by_cases ha : a.1 = styleName
      · have hc : (a.1 == name) = false := by rw [ha]; exact hb
        simp only [List.filter_cons]
        split
        · simp only [List.find?_cons, hc, ih]
        · simp only [List.find?_cons, hc, ih]
      · have : (!(a.1 == styleName) || a.2.isEmpty) = true := by simp [ha]
        simp only [List.filter_cons, this, if_true, List.find?_cons, ih]
  have hmap : ∀ al : List (B × B), getP (al.map fun a => if a.1 = styleName then (a.1, t) else a) name = getP al name := by
    intro al
    unfold getP
    induction al with
    | nil => rfl
    | cons a al ih =>
      simp only [List.map_cons, List.find?_cons]
      by_cases ha : a.1 = styleName
      · have hc : (a.1 == name) = false := by rw [ha]; exact hb
        simp only [ha, if_true, hb]
        rw [ha] at hc
        exact ih
      · simp only [ha, if_false]
        cases a.1 == name with
        | true => rfl
        | false => exact ih
  unfold setStyle
  split
  · split
    · unfold getP; rw [hfilter]
    · exact hmap al
  · split
    · rfl
    · unfold getP
      simp only [List.find?_cons, hb]
theorem NodeRel.get {t : B} {n m : PNode} (h : NodeRel t n m) {name : B} (hn : name ≠ styleName) : pGet m.attrs name = pGet n.attrs name := by
  rw [pGet_pr, pGet_pr, h.attrs, getP_set hn]
theorem RelL.none {tx : Nat → B} {xs ys : List PNode} {c j : Nat} (h : RelL tx c xs ys) (hx : xs[j]? = none) : ys[j]? = none := by
  rw [List.getElem?_eq_none_iff] at hx ⊢
  rw [← h.len]; exact hx
theorem rel_parent {tx : Nat → B} {l m : List PNode} (h : RelL tx 0 l m) (k : Nat) : parentOf m k = parentOf l k := by
  unfold parentOf
  cases hx : l[k]? with
  | none => rw [h.none hx]
  | some n =>
    obtain ⟨n', h1, h2⟩ := h.get hx
    rw [h1]; exact h2.parent
theorem rel_ups {tx : Nat → B} {l m : List PNode} (h : RelL tx 0 l m) (f k : Nat) : upsF m f k = upsF l f k := by
  induction f generalizing k with
  | zero => rfl
  | succ f ih => simp only [upsF, rel_parent h, ih]
theorem rel_last {tx : Nat → B} {l m : List PNode} (h : RelL tx 0 l m) (p : Int) (i : Nat) : lastWith m p i = lastWith l p i := by
  induction i with
  | zero => rfl
  | succ i ih =>
    simp only [lastWith]
    cases hx : l[i]? with
    | none => rw [h.none hx, ih]
    | some n =>
      obtain ⟨n', h1, h2⟩ := h.get hx
      rw [h1]
      simp only [Option.any_some, h2.parent, ih]
theorem rel_ahead {tx : Nat → B} {l m : List PNode} (h : RelL tx 0 l m) (k : Int) : pAhead m k = pAhead l k := by
  unfold pAhead
  rw [← h.len]
  split
  · rfl
  · cases hx : l[k.toNat]? with
    | none => rw [h.none hx]
    | some n =>
      obtain ⟨n', h1, h2⟩ := h.get hx
      rw [h1]
      simp only [h2.parent, rel_last h]
theorem rel_test {tx : Nat → B} {l m : List PNode} (h : RelL tx 0 l m) {t : PTest} (ht : TestOk t) (k : Nat) : mTest m k t = mTest l k t := by
  unfold mTest
  cases hx : l[k]? with
  | none => rw [h.none hx]
  | some n =>
    obtain ⟨n', h1, h2⟩ := h.get hx
    rw [h1]
    simp only
    unfold mTestN
    rw [h2.name, h2.get (show className ≠ styleName by decide), h2.get (show idName ≠ styleName by decide), rel_ahead h]
    by_cases hk : t.kind = 4 ∨ t.kind = 5
    · rw [h2.get (ht hk)]
    · rw [not_or] at hk
      simp only [hk.1, hk.2, if_false]
theorem rel_part {tx : Nat → B} {l m : List PNode} (h : RelL tx 0 l m) {p : PPart} (hp : PartOk p) (k : Nat) : mPart m k p = mPart l k p := by
  unfold mPart
  rw [Bool.eq_iff_iff]
  simp only [List.all_eq_true]
  constructor
  · intro hx t ht; rw [← rel_test h (hp t ht)]; exact hx t ht
  · intro hx t ht; rw [rel_test h (hp t ht)]; exact hx t ht
theorem rel_inR {tx : Nat → B} {l m : List PNode} (h : RelL tx 0 l m) (k : Int) : inR m k = inR l k := by unfold inR; rw [h.len]
theorem rel_at {tx : Nat → B} {l m : List PNode} (h : RelL tx 0 l m) : ∀ (ps : List PPart), (∀ p ∈ ps, PartOk p) → ∀ k, mAt m ps k = mAt l ps k
  | [], _, k => by simp only [mAt, rel_inR h]
  | p :: ps, hp, k => by
    have ih : mAt m ps = mAt l ps := funext (rel_at h ps fun q hq => hp q (by simp [hq]))
    simp only [mAt, rel_inR h, rel_part h (hp p (by simp)), ih]
    unfold mJoin
    rw [rel_parent h, rel_ahead h]
    unfold ups
    rw [rel_ups h]
theorem rel_matches {tx : Nat → B} {l m : List PNode} (h : RelL tx 0 l m) {s : PSel} (hs : SelOk s) (k : Int) : mMatches m k s = mMatches l k s := by
  unfold mMatches
  rw [rel_at h _ fun p hp => hs p (by simpa using hp)]
theorem rel_best {tx : Nat → B} {l m : List PNode} (h : RelL tx 0 l m) {sels : List PSel} (hs : ∀ s ∈ sels, SelOk s) (k : Int) : mBest m k sels = mBest l k sels := by
  unfold mBest
  generalize ((⟨0, 0, 0⟩, false) : PWt × Bool) = acc
  induction sels generalizing acc with
  | nil => rfl
  | cons s sels ih =>
    simp only [List.foldl_cons]
    rw [show bestStep m k acc s = bestStep l k acc s from by unfold bestStep; rw [rel_matches h (hs s (by simp))]]
    exact ih (fun x hx => hs x (by simp [hx])) _
end Go.Proofs.YtplbdlgmjehckadGreatDoor

