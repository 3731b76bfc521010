/-
  Lemmas for the claims of this seat: the program's functions walked, and plain laws. In this order: TpLaws FoAlive.
-/
import Derived.Test.YtplbdlgmjehckacGreatDoorPk8
namespace Go.Proofs.YtplbdlgmjehckacGreatDoor
set_option linter.unusedVariables false
set_option linter.unusedSimpArgs false
def rul (s : B) (ss : List PSel) (t : B) (d : PDecl) : In1 := .rule (ruleText s t) ss [d]
theorem rul_wf {s t : B} {ss : List PSel} {d : PDecl} (hs : SelT s ss) (hd : DeclT t d) : (rul s ss t d).wf := ruleT_of hs hd
theorem name_color : NameOk colorName := ⟨by decide +kernel, by decide, by decide⟩
theorem name_size : NameOk sizeName := ⟨by decide +kernel, by decide, by decide⟩
theorem name_edge : NameOk edgeName := ⟨by decide +kernel, by decide, by decide⟩
theorem name_left : NameOk edgeLeft := ⟨by decide +kernel, by decide, by decide⟩
def declTextB (nm w : B) : B := nm ++ [58, 32] ++ w ++ []
def selQ : PSel := [⟨0, [⟨3, [113], []⟩]⟩]
def selK : PSel := [⟨0, [⟨2, [107], []⟩]⟩]
def rid (a : B) : In1 := rul [35, 113] [selQ] (declText colorName a) ⟨colorName, a, false⟩
def rcls (a : B) : In1 := rul [46, 107] [selK] (declText colorName a) ⟨colorName, a, false⟩
def rtyp (a : B) : In1 := rul [112] [tyP 112] (declText colorName a) ⟨colorName, a, false⟩
theorem rid_wf {a : B} (h : TopW a) : (rid a).wf := rul_wf selT_q (declT_plain name_color h)
theorem rcls_wf {a : B} (h : TopW a) : (rcls a).wf := rul_wf selT_k (declT_plain name_color h)
theorem rtyp_wf {a : B} (h : TopW a) : (rtyp a).wf := rul_wf selT_p (declT_plain name_color h)
theorem rid_len {a : B} (h : TopW a) : (rid a).text.length ≤ 40 := by have := h.len; simp [rid, rul, In1.text, ruleText, declText, colorName]; omega
theorem rcls_len {a : B} (h : TopW a) : (rcls a).text.length ≤ 40 := by have := h.len; simp [rcls, rul, In1.text, ruleText, declText, colorName]; omega
theorem rtyp_len {a : B} (h : TopW a) : (rtyp a).text.length ≤ 40 := by have := h.len; simp [rtyp, rul, In1.text, ruleText, declText, colorName]; omega
theorem stays_none {l : List PNode} {rules : List PRule} {st : List Bool} (S : IsStays l rules st) (h : ∀ r ∈ rules, r.media = []) : st = List.replicate rules.length false ∧ goneR rules st = rules := by
  have h1 : st = List.replicate rules.length false := by
    rw [List.eq_replicate_iff]
    refine ⟨S.len, fun b hb => ?_⟩
    obtain ⟨j, hj⟩ := List.getElem?_of_mem hb
    cases b with
    | false => rfl
    | true =>
      obtain ⟨r, hr, hm⟩ := stay_media ((S.iff j true hj).1 rfl)
      exact absurd (h r hr) hm
  refine ⟨h1, ?_⟩
  subst h1
  have : ∀ rs : List PRule, goneR rs (List.replicate rs.length false) = rs := by
    intro rs
    induction rs with
    | nil => rfl
    | cons r rs ih => simp only [List.length_cons, List.replicate_succ, goneR, Bool.false_eq_true, if_false, ih]
  exact this rules
theorem setStyle_len (al : List (B × B)) (t : B) (hn : (al.map (·.1)).Nodup) : (attrsText (setStyle al t)).length ≤ (attrsText al).length + (t.length + 9) := by
  unfold setStyle
  split
  · split
    · clear hn
      rename_i h1 h2
      clear h1 h2
      induction al with
      | nil => simp [attrsText]
      | cons a al ih =>
        simp only [List.filter_cons]
        split
        · simp only [attrsText, List.length_append] at ih ⊢; omega
        · simp only [attrsText, List.length_append] at ih ⊢; omega
    · rename_i h1 h2
      clear h1 h2
      induction al with
      | nil => simp [attrsText]
      | cons a al ih =>
        rw [List.map_cons, List.nodup_cons] at hn
        by_cases ha : a.1 = styleName
        · have hno : hasStyle al = false := noStyle_of (by rw [← ha]; exact hn.1)
          rw [List.map_cons, noStyle_map t hno, if_pos ha]
          simp only [attrsText, List.length_append]
          have : (attrText (a.1, t)).length = 9 + t.length := by rw [ha]; simp [attrText, styleName]; omega
          omega
        · have := ih hn.2
          rw [List.map_cons, if_neg ha]
          simp only [attrsText, List.length_append]
          omega
  · split
    · omega
    · simp only [attrsText, List.length_append]
      have : (attrText (styleName, t)).length = 9 + t.length := by simp [attrText, styleName]; omega
      omega
theorem fold_len (tx : Nat → B) (g : Nat → Bool) (M : Nat) : ∀ (T : PT) (d c i : Nat), wfP d T → okP T → (∀ k, c ≤ k → k < c + sizeP T → (tx k).length ≤ M) → (textP (foldP tx g c i T)).length ≤ (textP T).length + sizeP T * (M + 9)
  | .nil, _, _, _, _, _, _ => by simp [foldP, textP]
  | .text x n, d, c, i, hw, ho, h => by
    have := fold_len tx g M n d c i hw.2.2 ho h
    simp only [foldP, textP, List.length_cons, sizeP]; omega
  | .note x n, d, c, i, hw, ho, h => by
    have := fold_len tx g M n d c i hw.2 ho h
    simp only [foldP, textP, List.length_append, sizeP]; omega
  | .elem nm al kids n, d, c, i, hw, ho, h => by
    obtain ⟨h1, h2, h3, h4, h5, h6⟩ := hw
    have a1 := fold_len tx g M kids (d + 1) (c + 1) i h5 ho.1 (fun k k1 k2 => h k (by omega) (by simp only [sizeP]; omega))
    have a2 := fold_len tx g M n d (c + 1 + sizeP kids) (i + nRulesP kids) h6 ho.2 (fun k k1 k2 => h k (by omega) (by simp only [sizeP]; omega))
    have a3 := setStyle_len al (tx c) h4.apart
    have a4 := h c (Nat.le_refl _) (by simp only [sizeP]; omega)
    simp only [foldP, textP, openText, closeText, List.length_append, sizeP, Nat.add_mul, Nat.one_mul] at *
    omega
  | .style al inner n, d, c, i, hw, ho, h => by
    obtain ⟨h1, h4, h5, h6⟩ := hw
    obtain ⟨⟨rs, hr⟩, ho⟩ := ho
    have a2 := fold_len tx g M n d (c + 1) (i + (rulesOf inner).length) h6 ho (fun k k1 k2 => h k (by omega) (by simp only [sizeP]; omega))
    have a3 := setStyle_len al (tx c) h4.apart
    have a4 := h c (Nat.le_refl _) (by simp only [sizeP]; omega)
    have a5 := splice_len (fun j => g (i + j)) rs 0 0 (Nat.zero_le _) (parse_placed hr)
    rw [splice_shift] at a5
    rw [← rulesOf_ok hr] at a5
    simp only [Nat.add_zero] at a5
    simp only [foldP, textP, openText, closeText, List.length_append, sizeP, Nat.add_mul, Nat.one_mul] at *
    omega
theorem print_short {ds : List PDecl} (hd : ∀ d ∈ ds, DeclOk d) {n : Nat} (h : ds.length ≤ n) : (sPrint ds).length ≤ 95 * n := by
  have := print_le hd
  omega
structure TopAs (T : PT) (rs0 : List PRule) : Prop where
  wf : wfP 1 T
  ok : okP T
  len : (textP T).length ≤ 1000
  few : sizeP T ≤ 8
  rules : (treeRules 0 T).map stripR = rs0
  most : rs0.length ≤ 8
  plain : ∀ r ∈ rs0, pAll r.decls ≠ none
  own : nodesBad (nodesP (-1) 0 0 T) = none
theorem TopAs.read {T : PT} {rs0 : List PRule} (h : TopAs T rs0) : ReadAs (textP T) (nodesP (-1) 0 0 T) (treeRules 0 T) T := by
  have hm := h.most
  rw [← h.rules, List.length_map] at hm
  refine ⟨by have := h.len; omega, h.wf, h.ok, by have := h.few; omega, rfl, rfl, rfl, by omega, ?_, h.own⟩
  refine none_plain fun r hr => ?_
  have := h.plain (stripR r) (by rw [← h.rules]; exact List.mem_map.2 ⟨r, hr, rfl⟩)
  exact this
theorem rcl_as {l : List PNode} {k : Int} {rs rs0 : List PRule} (h : rs.map stripR = rs0) : rcl l k [] rs = rcl l k [] rs0 := by rw [← h, rcl_strip]
theorem TopAs.fold {T : PT} {rs0 : List PRule} (h : TopAs T rs0) (hmd : ∀ r ∈ rs0, r.media = [])
    (hx : ∀ (j : Nat) (n : PNode), (nodesP (-1) 0 0 T)[j]? = some n → (cLook (rcl (nodesP (-1) 0 0 T) (j : Int) [] rs0 ++ ownClaims (ownOf n))).length ≤ 4 ∧ n.attrs.length < 8)
    {st : List Bool} (S : IsStays (nodesP (-1) 0 0 T) (treeRules 0 T) st) :
    ∃ (tx : Nat → B) (t : B) (m : List PNode), (∀ (j : Nat) (n : PNode), (nodesP (-1) 0 0 T)[j]? = some n → tx j = sPrint (cLook (rcl (nodesP (-1) 0 0 T) (j : Int) [] rs0 ++ ownClaims (ownOf n)))) ∧
      t = textP (foldP tx (goes st) 0 0 T) ∧ fFold (textP T) (nodesP (-1) 0 0 T) (treeRules 0 T) st = .ok t ∧ pParse t = .ok m ∧ m.length = sizeP T ∧
      ∀ (k : Nat) (n : PNode), (nodesP (-1) 0 0 T)[k]? = some n → ∃ n', m[k]? = some n' ∧ (pGet n'.attrs styleName).1 = tx k := by
  have R := h.read
  have hmd' : ∀ r ∈ treeRules 0 T, r.media = [] := fun r hr => hmd (stripR r) (by rw [← h.rules]; exact List.mem_map.2 ⟨r, hr, rfl⟩)
  obtain ⟨hst, hg⟩ := stays_none S hmd'
  have hfine : ∀ (j : Nat) (n : PNode), (nodesP (-1) 0 0 T)[j]? = some n → ∀ d ∈ cLook (rcl (nodesP (-1) 0 0 T) (j : Int) [] rs0 ++ ownClaims (ownOf n)), DeclOk d := fun j n hn d hd => by
    have := (style_as R (gone := treeRules 0 T) (fun r hr => hr) hn).fine d (by rw [rcl_as h.rules]; exact hd)
    exact this.1
  obtain ⟨tx, h1, h2⟩ := top_fold R S.len (fun j n hn => by
    rw [hg, rcl_as h.rules]
    exact ⟨by have := (hx j n hn).1; omega, (hx j n hn).2⟩) (fun tx htx => by
    have := fold_len tx (goes st) 380 T 1 0 0 h.wf h.ok (fun k _ hk => by
      rw [Nat.zero_add, ← nodesP_len T (-1) 0 0] at hk
      have hn := List.getElem?_eq_getElem hk
      rw [htx k _ hn, hg, rcl_as h.rules]
      exact print_short (hfine k _ hn) (hx k _ hn).1)
    have a := h.few
    have b := h.len
    have : sizeP T * (380 + 9) ≤ 8 * 389 := Nat.mul_le_mul a (Nat.le_refl _)
    omega)
  obtain ⟨m, h3, h4, h5⟩ := top_style R S.len h2
  refine ⟨tx, _, m, fun j n hn => ?_, rfl, h2, h3, by rw [h4, nodesP_len], fun k n hn => ?_⟩
  · rw [h1 j n hn, hg, rcl_as h.rules]
  · obtain ⟨n', e1, e2⟩ := h5 k n hn
    exact ⟨n', e1, by rw [e2, h1 k n hn]⟩
theorem own_none {l : List PNode} (h : ∀ n ∈ l, ∀ a ∈ n.attrs, a.name ≠ styleName) : nodesBad l = none := by
  unfold nodesBad
  rw [List.findSome?_eq_none_iff]
  intro a ha
  obtain ⟨n, hn, ha⟩ := List.mem_flatMap.1 ha
  unfold attrBad
  rw [if_neg (h n hn a ha)]
def weightT (xs : List In1) : PT := .style [] (textIn xs) (.elem [112] [(className, [107]), (idName, [113])] (.text 120 .nil) (.elem [112] [(className, [107])] (.text 121 .nil) (.elem [112] [] (.text 122 .nil) .nil)))
def sr (ss : List PSel) (d : PDecl) : PRule := ⟨[], ss, [d], 0, 0⟩
def wOrder {α : Type} (x y z : α) : Nat → List α
  | 0 => [x, y, z]
  | 1 => [x, z, y]
  | 2 => [y, x, z]
  | 3 => [y, z, x]
  | 4 => [z, x, y]
  | _ => [z, y, x]
def wXs (a b c : B) (o : Nat) : List In1 := wOrder (rid a) (rcls b) (rtyp c) o
def wRs (a b c : B) (o : Nat) : List PRule := wOrder (sr [selQ] ⟨colorName, a, false⟩) (sr [selK] ⟨colorName, b, false⟩) (sr [tyP 112] ⟨colorName, c, false⟩) o
theorem wOrder_mem {α : Type} {x y z : α} {o : Nat} {u : α} (h : u ∈ wOrder x y z o) : u = x ∨ u = y ∨ u = z := by
  unfold wOrder at h
  split at h <;> simp only [List.mem_cons, List.not_mem_nil, or_false] at h <;> rcases h with rfl | rfl | rfl <;> simp
theorem six {Q : Nat → Prop} (h0 : Q 0) (h1 : Q 1) (h2 : Q 2) (h3 : Q 3) (h4 : Q 4) (h5 : Q 5) : ∀ o ≤ 5, Q o := by
  intro o ho
  match o, ho with
  | 0, _ => exact h0
  | 1, _ => exact h1
  | 2, _ => exact h2
  | 3, _ => exact h3
  | 4, _ => exact h4
  | 5, _ => exact h5
theorem wText_len {a b c : B} (ha : TopW a) (hb : TopW b) (hc : TopW c) {o : Nat} (ho : o ≤ 5) : (textIn (wXs a b c o)).length ≤ 120 := by
  have l1 := rid_len ha
  have l2 := rcls_len hb
  have l3 := rtyp_len hc
  revert o
  apply six <;> simp only [wXs, wOrder, textIn, List.length_append, List.length_nil] <;> omega
theorem style_in : findSub styleEnd styleEnd = some 0 := by decide
theorem no_tag : ∀ {w : B}, (∀ c ∈ w, c ≠ 60) → findSub styleEnd (w ++ styleEnd) = some w.length
  | [], _ => by decide
  | c :: w, h => by
    have ih := no_tag (w := w) fun x hx => h x (by simp [hx])
    have hp : styleEnd.isPrefixOf (c :: (w ++ styleEnd)) = false := by
      rw [← Bool.not_eq_true]; intro hp
      exact h c (by simp) (prefix_head hp).symm
    exact NoIn.cons (w := styleEnd) (x := c) (y := w) hp ih
theorem word_ne60 {w : B} (h : WordOk w) : ∀ c ∈ w, c ≠ 60 := by
  rintro c hc rfl
  have := h.2 _ hc
  cases this
theorem attrNone : AttrsOk [] := ⟨by simp, by simp, by simp, by simp⟩
theorem attr_cls : AttrsOk [(className, [107])] := ⟨by simp; exact ⟨by decide +kernel, by decide, by decide⟩, by decide, by simp, by simp⟩
theorem attr_two : AttrsOk [(className, [107]), (idName, [113])] := ⟨by
  simp only [List.mem_cons, List.not_mem_nil, or_false]
  rintro a (rfl | rfl) <;> exact ⟨by decide +kernel, by decide, by decide⟩, by decide, by simp, by decide⟩
theorem name_p : NameOk [112] := ⟨by decide +kernel, by decide, by decide⟩
theorem name_b : NameOk [98] := ⟨by decide +kernel, by decide, by decide⟩
theorem pall_one {d : PDecl} (h : d.name ≠ edgeName) : pAll [d] ≠ none := by
  rw [all_of_plain (x := [d]) (by simpa using h)]; simp
theorem declText_ne60 {nm w : B} (h1 : ∀ c ∈ nm, c ≠ 60) (hw : WordOk w) : ∀ c ∈ declText nm w, c ≠ 60 := by
  have g := word_ne60 hw
  simp only [declText, List.mem_append]
  rintro x (h | h | h)
  · exact h1 x h
  · revert x; decide
  · exact g x h
theorem rul_ne60 {s t : B} {ss : List PSel} {d : PDecl} (h1 : ∀ c ∈ s, c ≠ 60) (h2 : ∀ c ∈ t, c ≠ 60) : ∀ c ∈ (rul s ss t d).text, c ≠ 60 := by
  simp only [rul, In1.text, ruleText, List.mem_append]
  rintro x (h | h | h | h)
  · exact h1 x h
  · revert x; decide
  · exact h2 x h
  · revert x; decide
theorem textIn_ne60 : ∀ {xs : List In1}, (∀ x ∈ xs, ∀ u ∈ x.text, u ≠ 60) → ∀ u ∈ textIn xs, u ≠ 60 := by
  intro xs
  induction xs with
  | nil => intro _ u hu; cases hu
  | cons y ys ih =>
    intro h u hu
    rcases List.mem_append.1 hu with hu | hu
    · exact h y (by simp) u hu
    · exact ih (fun x hx => h x (by simp [hx])) u hu
theorem wRules_len (a b c : B) : ∀ o ≤ 5, (rulesIn [] 0 (wXs a b c o)).length = 3 := by apply six <;> rfl
theorem wRules_strip (a b c : B) (d : Nat) : ∀ o ≤ 5, ((rulesIn [] 0 (wXs a b c o)).map (PRule.shift d)).map stripR = wRs a b c o := by apply six <;> rfl
theorem wRs_len (a b c : B) : ∀ o ≤ 5, (wRs a b c o).length = 3 := by apply six <;> rfl
theorem weight_as {a b c : B} (ha : TopW a) (hb : TopW b) (hc : TopW c) {o : Nat} (ho : o ≤ 5) : TopAs (weightT (wXs a b c o)) (wRs a b c o) := by
  have hwf : ∀ x ∈ wXs a b c o, x.wf := by
    intro x hx
    rcases wOrder_mem hx with rfl | rfl | rfl
    · exact rid_wf ha
    · exact rcls_wf hb
    · exact rtyp_wf hc
  have hl := wText_len ha hb hc ho
  have hsp := sheet_in hwf (by omega) (by rw [wRules_len a b c o ho]; omega)
  have hne : ∀ c' ∈ textIn (wXs a b c o), c' ≠ 60 := by
    refine textIn_ne60 fun x hx => ?_
    rcases wOrder_mem hx with rfl | rfl | rfl
    · exact rul_ne60 (by decide) (declText_ne60 (by decide) ha.word)
    · exact rul_ne60 (by decide) (declText_ne60 (by decide) hb.word)
    · exact rul_ne60 (by decide) (declText_ne60 (by decide) hc.word)
  refine ⟨?_, ⟨⟨_, hsp⟩, trivial, trivial, trivial, trivial⟩, ?_, by simp [weightT, sizeP], ?_, ?_, ?_, ?_⟩
  · exact ⟨by omega, attrNone, no_tag hne, by omega, name_p, by decide, attr_two, ⟨by decide, by decide, trivial⟩, by omega, name_p, by decide, attr_cls, ⟨by decide, by decide, trivial⟩, by omega, name_p, by decide, attrNone, ⟨by decide, by decide, trivial⟩, trivial⟩
  · simp [weightT, textP, openText, closeText, attrsText, attrText, styleName, className, idName]; omega
  · show (treeRules 0 (.style [] (textIn (wXs a b c o)) _)).map stripR = _
    simp only [treeRules, rulesOf_ok hsp, List.append_nil]
    exact wRules_strip a b c _ o ho
  · rw [wRs_len a b c o ho]; omega
  · intro r hr
    rcases wOrder_mem hr with rfl | rfl | rfl <;> exact pall_one (show colorName ≠ edgeName by decide)
  · refine own_none fun n hn x hx => ?_
    simp only [weightT, nodesP, List.nil_append, List.append_nil, List.mem_cons, List.not_mem_nil, or_false, List.mem_append] at hn
    rcases hn with rfl | rfl | rfl | rfl
    · cases hx
    · simp only [attrsAt, List.mem_cons, List.not_mem_nil, or_false] at hx
      rcases hx with rfl | rfl <;> simp [className, idName, styleName]
    · simp only [attrsAt, List.mem_cons, List.not_mem_nil, or_false] at hx
      subst hx; simp [className, styleName]
    · cases hx
theorem weight_looks (a b c : B) : ∀ o ≤ 5, ∀ (j : Nat) (n : PNode), (nodesP (-1) 0 0 (weightT (wXs a b c o)))[j]? = some n →
    cLook (rcl (nodesP (-1) 0 0 (weightT (wXs a b c o))) (j : Int) [] (wRs a b c o) ++ ownClaims (ownOf n)) = (if j = 0 then [] else if j = 1 then [⟨colorName, a, false⟩] else if j = 2 then [⟨colorName, b, false⟩] else [⟨colorName, c, false⟩]) ∧ n.attrs.length < 8 := by
  apply six <;> intro j n hn <;> match j, hn with
    | 0, hn => have := Option.some.inj hn; subst this; exact ⟨by rfl, by rw [attrsAt_len]; decide⟩
    | 1, hn => have := Option.some.inj hn; subst this; exact ⟨by rfl, by rw [attrsAt_len]; decide⟩
    | 2, hn => have := Option.some.inj hn; subst this; exact ⟨by rfl, by rw [attrsAt_len]; decide⟩
    | 3, hn => have := Option.some.inj hn; subst this; exact ⟨by rfl, by rw [attrsAt_len]; decide⟩
    | j + 4, hn => cases hn
theorem top_weight {a b c : B} (ha : TopW a) (hb : TopW b) (hc : TopW c) {o : Nat} (ho : o ≤ 5) : fRead (textP (weightT (wXs a b c o))) = .ok (nodesP (-1) 0 0 (weightT (wXs a b c o)), treeRules 0 (weightT (wXs a b c o))) ∧
    ∀ st, IsStays (nodesP (-1) 0 0 (weightT (wXs a b c o))) (treeRules 0 (weightT (wXs a b c o))) st → ∃ t m n1 n2 n3, fFold (textP (weightT (wXs a b c o))) (nodesP (-1) 0 0 (weightT (wXs a b c o))) (treeRules 0 (weightT (wXs a b c o))) st = .ok t ∧ pParse t = .ok m ∧
      m.length = 4 ∧ m[1]? = some n1 ∧ m[2]? = some n2 ∧ m[3]? = some n3 ∧ (pGet n1.attrs styleName).1 = declTextB colorName a ∧ (pGet n2.attrs styleName).1 = declTextB colorName b ∧ (pGet n3.attrs styleName).1 = declTextB colorName c := by
  have H := weight_as ha hb hc ho
  refine ⟨as_read H.read, fun st S => ?_⟩
  have hL := weight_looks a b c o ho
  obtain ⟨tx, t, m, h1, h2, h3, h4, h5, h6⟩ := H.fold (by
    intro r hr
    rcases wOrder_mem hr with rfl | rfl | rfl <;> rfl) (fun j n hn => by
    obtain ⟨e1, e2⟩ := hL j n hn
    refine ⟨?_, e2⟩
    rw [e1]
    split
    · simp
    · split
      · simp
      · split <;> simp) S
  have g1 : tx 1 = declTextB colorName a := by rw [h1 1 _ rfl, (hL 1 _ rfl).1]; rfl
  have g2 : tx 2 = declTextB colorName b := by rw [h1 2 _ rfl, (hL 2 _ rfl).1]; rfl
  have g3 : tx 3 = declTextB colorName c := by rw [h1 3 _ rfl, (hL 3 _ rfl).1]; rfl
  obtain ⟨n1, k1, k1'⟩ := h6 1 _ rfl
  obtain ⟨n2, k2, k2'⟩ := h6 2 _ rfl
  obtain ⟨n3, k3, k3'⟩ := h6 3 _ rfl
  exact ⟨t, m, n1, n2, n3, h3, h4, h5, k1, k2, k3, by rw [k1', g1], by rw [k2', g2], by rw [k3', g3]⟩
end Go.Proofs.YtplbdlgmjehckacGreatDoor
namespace Go.Proofs.YtplbdlgmjehckacGreatDoor
set_option linter.unusedVariables false
set_option linter.unusedSimpArgs false
def alive6In : B := [60, 115, 116, 121, 108, 101, 62, 112, 123, 99, 111, 108, 111, 114, 58, 114, 101, 100, 125, 60, 47, 115, 116, 121, 108, 101, 62, 60, 112, 62, 120, 60, 47, 112, 62]
def alive6Out : B := [60, 115, 116, 121, 108, 101, 62, 32, 60, 47, 115, 116, 121, 108, 101, 62, 60, 112, 32, 115, 116, 121, 108, 101, 61, 34, 99, 111, 108, 111, 114, 58, 32, 114, 101, 100, 34, 62, 120, 60, 47, 112, 62]
def aliveTIn : B := [60, 115, 116, 121, 108, 101, 62, 112, 123, 99, 111, 108, 111, 114, 58, 114, 101, 100, 125, 32, 64, 109, 101, 100, 105, 97, 32, 119, 105, 100, 101, 123, 112, 123, 115, 105, 122, 101, 58, 49, 50, 125, 125, 32, 98, 123, 115, 105, 122, 101, 58, 57, 125, 60, 47, 115, 116, 121, 108, 101, 62, 60, 112, 62, 60, 98, 62, 120, 60, 47, 98, 62, 60, 47, 112, 62]
def aliveTOut : B := [60, 115, 116, 121, 108, 101, 62, 32, 32, 64, 109, 101, 100, 105, 97, 32, 119, 105, 100, 101, 123, 112, 123, 115, 105, 122, 101, 58, 49, 50, 125, 125, 32, 32, 60, 47, 115, 116, 121, 108, 101, 62, 60, 112, 32, 115, 116, 121, 108, 101, 61, 34, 99, 111, 108, 111, 114, 58, 32, 114, 101, 100, 34, 62, 60, 98, 32, 115, 116, 121, 108, 101, 61, 34, 115, 105, 122, 101, 58, 32, 57, 34, 62, 120, 60, 47, 98, 62, 60, 47, 112, 62]
def okOf {α : Type} (d : α) : Ans α → α
  | .ok a => a
  | .bad _ => d
def isOk {α : Type} : Ans α → Bool
  | .ok _ => true
  | .bad _ => false
theorem okOf_eq {α : Type} {d : α} {a : Ans α} (h : isOk a = true) : a = .ok (okOf d a) := by
  cases a with
  | ok a => rfl
  | bad f => cases h
def alive6L : List PNode × List PRule := okOf ([], []) (fRead alive6In)
def aliveTL : List PNode × List PRule := okOf ([], []) (fRead aliveTIn)
theorem alive6_read : fRead alive6In = .ok alive6L := okOf_eq (by decide +kernel)
theorem aliveT_read : fRead aliveTIn = .ok aliveTL := okOf_eq (by decide +kernel)
theorem alive6_media : ∀ r ∈ alive6L.2, r.media = [] := by decide +kernel
theorem alive6_len : alive6L.2.length = 1 := by decide +kernel
theorem alive6_fold : fFold alive6In alive6L.1 alive6L.2 [false] = .ok alive6Out := by decide +kernel
theorem alive6 {st : List Bool} (S : IsStays alive6L.1 alive6L.2 st) : fFold alive6In alive6L.1 alive6L.2 st = .ok alive6Out := by
  have := (stays_none S alive6_media).1
  rw [alive6_len] at this
  rw [this]
  exact alive6_fold
theorem aliveT_touch : aliveTL.2.map (touches aliveTL.1) = [[(1, colorName)], [(1, sizeName)], [(2, sizeName)]] := by decide +kernel
theorem aliveT_media : aliveTL.2.map (·.media) = [[], [119, 105, 100, 101], []] := by decide +kernel
theorem aliveT_fold : fFold aliveTIn aliveTL.1 aliveTL.2 [false, true, false] = .ok aliveTOut := by decide +kernel
theorem aliveT {st : List Bool} (S : IsStays aliveTL.1 aliveTL.2 st) : fFold aliveTIn aliveTL.1 aliveTL.2 st = .ok aliveTOut := by
  have ht : ∀ (i : Nat) (r : PRule), aliveTL.2[i]? = some r → [[(1, colorName)], [(1, sizeName)], [(2, sizeName)]][i]? = some (touches aliveTL.1 r) := fun i r hi => by rw [← aliveT_touch, List.getElem?_map, hi]; rfl
  have hm : ∀ (i : Nat) (r : PRule), aliveTL.2[i]? = some r → [[], [119, 105, 100, 101], []][i]? = some r.media := fun i r hi => by rw [← aliveT_media, List.getElem?_map, hi]; rfl
  have hl : aliveTL.2.length = 3 := by
    have := congrArg List.length aliveT_media
    simpa using this
  have key : ∀ i, Stay aliveTL.1 aliveTL.2 i → i = 1 := by
    intro i h
    induction h with
    | @media i r hi hmd =>
      have := hm i r hi
      match i, this with
      | 0, this => simp at this; exact absurd this hmd
      | 1, _ => rfl
      | 2, this => simp at this; exact absurd this hmd
      | i + 3, this => simp at this
    | @meet i j r q p hi hj hs h1 h2 ih =>
      subst ih
      have a := ht i r hi
      have b := ht 1 q hj
      simp at b
      rw [← b] at h2
      simp only [List.mem_cons, List.not_mem_nil, or_false] at h2
      subst h2
      match i, a with
      | 0, a => simp at a; rw [← a] at h1; simp [sizeName, colorName] at h1
      | 1, _ => rfl
      | 2, a => simp at a; rw [← a] at h1; simp at h1
      | i + 3, a => simp at a
  have s1 : Stay aliveTL.1 aliveTL.2 1 := by
    have h := List.getElem?_eq_getElem (show 1 < aliveTL.2.length by omega)
    refine .media h ?_
    have := hm 1 _ h
    simp at this
    rw [← this]; simp
  have hst : st = [false, true, false] := by
    have hlen := S.len
    rw [hl] at hlen
    match st, hlen, S with
    | [b0, b1, b2], _, S =>
      have h0 := S.iff 0 b0 rfl
      have h1 := S.iff 1 b1 rfl
      have h2 := S.iff 2 b2 rfl
      rw [h1.2 s1]
      have e0 : b0 = false := by
        cases b0 with
        | false => rfl
        | true => have := key 0 (h0.1 rfl); omega
      have e2 : b2 = false := by
        cases b2 with
        | false => rfl
        | true => have := key 2 (h2.1 rfl); omega
      rw [e0, e2]
  rw [hst]
  exact aliveT_fold
end Go.Proofs.YtplbdlgmjehckacGreatDoor
