/-
  Lemmas for the claims of this seat: the program's functions walked, and plain laws. In this order: FoRead FoLim FoFoldP FoRdSpec FoStay.
-/
import Derived.Test.YtplbdlgmjehckadGreatDoorPk6
import Derived.Test.YtplbdlgmjehckadGreatDoorPk3
import Derived.Test.YtplbdlgmjehckadGreatDoorPk5
namespace Go.Proofs.YtplbdlgmjehckadGreatDoor
set_option linter.unusedVariables false
set_option linter.unusedSimpArgs false
def NoIn (w x : B) : Prop := findSub w (x ++ w) = some x.length
theorem NoIn.tail {w : B} {x : UInt8} {y : B} (h : NoIn w (x :: y)) : w.isPrefixOf (x :: (y ++ w)) = false ∧ NoIn w y := by
  unfold NoIn at h ⊢
  simp only [List.cons_append, findSub, List.length_cons] at h
  split at h
  · simp at h
  · rename_i hp
    refine ⟨by rw [← Bool.not_eq_true]; exact hp, ?_⟩
    cases hf : findSub w (y ++ w) with
    | none => rw [hf] at h; cases h
    | some k => rw [hf] at h; simp at h; rw [h]
theorem NoIn.cons {w : B} {x : UInt8} {y : B} (h : w.isPrefixOf (x :: (y ++ w)) = false) (hy : NoIn w y) : NoIn w (x :: y) := by
  unfold NoIn at hy ⊢
  simp only [List.cons_append, findSub, List.length_cons, h, Bool.false_eq_true, if_false, hy, Option.map_some]
theorem NoIn.drop {w : B} : ∀ {a b : B}, NoIn w (a ++ b) → NoIn w b
  | [], _, h => h
  | x :: a, b, h => NoIn.drop (a := a) h.tail.2
theorem NoIn.gap {w : B} (hw : w ≠ []) (h32 : (32 : UInt8) ∉ w) : ∀ {a b c : B}, NoIn w (a ++ c) → NoIn w b → NoIn w (a ++ ([32] ++ b))
  | [], b, c, _, hb => by
    refine NoIn.cons ?_ hb
    rw [← Bool.not_eq_true]
    intro hp
    cases w with
    | nil => exact hw rfl
    | cons y w =>
      have := prefix_head hp
      exact h32 (by rw [this]; simp)
  | x :: a, b, c, ha, hb => by
    obtain ⟨h1, h2⟩ := ha.tail
    refine NoIn.cons ?_ (NoIn.gap hw h32 (a := a) h2 hb)
    rw [← Bool.not_eq_true] at h1 ⊢
    intro hp
    rw [List.isPrefixOf_iff_prefix] at hp h1
    by_cases hl : w.length ≤ (x :: a).length
    · refine h1 ?_
      have h3 : w <+: x :: a := List.prefix_of_prefix_length_le hp (by exact ⟨([32] ++ b) ++ w, by simp⟩) hl
      exact h3.trans ⟨c ++ w, by simp⟩
    · refine h32 ?_
      have h3 : (x :: a) ++ [32] <+: w := List.prefix_of_prefix_length_le (l₃ := x :: (a ++ ([32] ++ b) ++ w)) ⟨b ++ w, by simp⟩ hp (by simp at hl ⊢; omega)
      exact h3.subset (by simp)
theorem splice_noIn {w inner : B} (hw : w ≠ []) (h32 : (32 : UInt8) ∉ w) (g : Nat → Bool) (h : NoIn w inner) : ∀ (rs : List PRule) (i a : Nat), a ≤ inner.length → Placed inner a rs → NoIn w (splice (fun _ => [32]) g inner i a rs)
  | [], i, a, ha, _ => by
    simp only [splice]
    refine NoIn.drop (a := inner.take a) ?_
    rw [List.take_append_drop]; exact h
  | r :: rs, i, a, ha, ⟨lo, hi, h1, h2, h3, h4, h5, h6, h7⟩ => by
    simp only [splice]
    split
    · rw [List.append_assoc]
      refine NoIn.gap hw h32 (c := inner.drop lo) ?_ (splice_noIn hw h32 g h rs _ _ (by rw [h2, Int.toNat_natCast]; exact h5) (by rw [h2, Int.toNat_natCast]; exact h7))
      rw [h1, Int.toNat_natCast, sub_to h3]
      refine NoIn.drop (a := inner.take a) ?_
      rw [List.take_append_drop]; exact h
    · exact splice_noIn hw h32 g h rs _ _ ha (h7.early (by omega))
theorem splice_len (g : Nat → Bool) {w : B} : ∀ (rs : List PRule) (i a : Nat), a ≤ w.length → Placed w a rs → (splice (fun _ => [32]) g w i a rs).length + a ≤ w.length
  | [], i, a, ha, _ => by simp [splice]; omega
  | r :: rs, i, a, ha, ⟨lo, hi, h1, h2, h3, h4, h5, h6, h7⟩ => by
    simp only [splice]
    split
    · have := splice_len g rs (i + 1) hi h5 h7
      rw [h1, h2, Int.toNat_natCast, Int.toNat_natCast]
      have hs : (sub w a lo).length = lo - a := by unfold sub; simp; omega
      simp only [List.length_append, hs, List.length_cons, List.length_nil]
      omega
    · exact splice_len g rs (i + 1) a ha (h7.early (by omega))
theorem splice_shift (f : B → B) (g : Nat → Bool) (w : B) (i : Nat) : ∀ (rs : List PRule) (k a : Nat), splice f (fun j => g (i + j)) w k a rs = splice f g w (i + k) a rs
  | [], _, _ => rfl
  | r :: rs, k, a => by simp only [splice, splice_shift f g w i rs, Nat.add_assoc]
theorem keepP_shift {α : Type} (g : Nat → Bool) (i : Nat) : ∀ (rs : List α) (k : Nat), keepP (fun j => g (i + j)) k rs = keepP g (i + k) rs
  | [], _ => rfl
  | r :: rs, k => by simp only [keepP, keepP_shift g i rs, Nat.add_assoc]
structure AttrCond (al : List (B × B)) (t : B) : Prop where
  val : ∀ c ∈ t, isVal c = true
  few : hasStyle al = false → al.length = 8 → t = []
theorem hasStyle_iff {al : List (B × B)} : hasStyle al = true ↔ styleName ∈ al.map (·.1) := by
  unfold hasStyle
  simp only [List.any_eq_true, beq_iff_eq, List.mem_map]
theorem setStyle_ok {al : List (B × B)} {t : B} (h : AttrsOk al) (hc : AttrCond al t) : AttrsOk (setStyle al t) := by
  have hsn : NameOk styleName := ⟨by decide, by decide, by decide⟩
  unfold setStyle
  split
  · split
    · refine ⟨fun a ha => h.name a (List.mem_filter.1 ha).1, fun a ha => h.val a (List.mem_filter.1 ha).1, Nat.le_trans (List.length_filter_le _ _) h.few, ?_⟩
      exact (List.filter_sublist.map _).nodup h.apart
    · have hmap : (al.map fun a => if a.1 = styleName then (a.1, t) else a).map (·.1) = al.map (·.1) := by
        rw [List.map_map]
        apply List.map_congr_left
        intro a _
        simp only [Function.comp_apply]
        split <;> rfl
      refine ⟨fun a ha => ?_, fun a ha => ?_, by simpa using h.few, by rw [hmap]; exact h.apart⟩
      · obtain ⟨b, hb, rfl⟩ := List.mem_map.1 ha
        split
        · exact h.name b hb
        · exact h.name b hb
      · obtain ⟨b, hb, rfl⟩ := List.mem_map.1 ha
        split
        · exact hc.val
        · exact h.val b hb
  · rename_i hs
    rw [Bool.not_eq_true] at hs
    split
    · exact h
    · rename_i ht
      refine ⟨fun a ha => ?_, fun a ha => ?_, ?_, ?_⟩
      · rcases List.mem_cons.1 ha with rfl | ha
        · exact hsn
        · exact h.name a ha
      · rcases List.mem_cons.1 ha with rfl | ha
        · exact hc.val
        · exact h.val a ha
      · have := h.few
        have : al.length ≠ 8 := fun e => ht (hc.few hs e)
        simp; omega
      · rw [List.map_cons, List.nodup_cons]
        refine ⟨fun hm => ?_, h.apart⟩
        have := hasStyle_iff.2 hm
        rw [hs] at this; cases this
def allN (Q : Nat → List (B × B) → Prop) : Nat → PT → Prop
  | _, .nil => True
  | c, .text _ n => allN Q c n
  | c, .note _ n => allN Q c n
  | c, .elem _ al kids n => Q c al ∧ allN Q (c + 1) kids ∧ allN Q (c + 1 + sizeP kids) n
  | c, .style al _ n => Q c al ∧ allN Q (c + 1) n
theorem all_nodes {Q : Nat → List (B × B) → Prop} : ∀ (T : PT) (c p : Nat) (par : Int), (∀ j n, (nodesP par c p T)[j]? = some n → Q (c + j) (n.attrs.map pr)) → allN Q c T
  | .nil, _, _, _, _ => trivial
  | .text _ n, c, p, par, h => all_nodes n c _ par h
  | .note _ n, c, p, par, h => all_nodes n c _ par h
  | .elem nm al kids n, c, p, par, h => by
    simp only [nodesP] at h
    refine ⟨?_, all_nodes kids (c + 1) (p + (openText nm al).length) (c : Int) fun j m hm => ?_, all_nodes n (c + 1 + sizeP kids) (p + (openText nm al).length + (textP kids).length + (closeText nm).length) par fun j m hm => ?_⟩
    · have := h 0 _ rfl
      simpa only [attrsAt_pr, Nat.add_zero] using this
    · have := h (j + 1) m (by
        rw [List.getElem?_cons_succ, List.getElem?_append_left (List.getElem?_eq_some_iff.1 hm).1]; exact hm)
      rwa [show c + (j + 1) = c + 1 + j from by omega] at this
    · have := h (sizeP kids + j + 1) m (by
        rw [List.getElem?_cons_succ, List.getElem?_append_right (by rw [nodesP_len]; omega), nodesP_len, Nat.add_sub_cancel_left]; exact hm)
      rwa [show c + (sizeP kids + j + 1) = c + 1 + sizeP kids + j from by omega] at this
  | .style al inner n, c, p, par, h => by
    simp only [nodesP] at h
    refine ⟨?_, all_nodes n (c + 1) (p + (openText styleName al).length + inner.length + (closeText styleName).length) par fun j m hm => ?_⟩
    · have := h 0 _ rfl
      simpa only [attrsAt_pr, Nat.add_zero] using this
    · have := h (j + 1) m (by rw [List.getElem?_cons_succ]; exact hm)
      rwa [show c + (j + 1) = c + 1 + j from by omega] at this
def stripR (r : PRule) : PRule := { r with lo := 0, hi := 0 }
theorem style_end_ok : styleEnd ≠ [] ∧ (32 : UInt8) ∉ styleEnd := by decide
theorem cut_inner (g : Nat → Bool) (i : Nat) {inner : B} {rs : List PRule} (h : sParse inner = .ok rs) :
    ∃ rs', sParse (splice (fun _ => [32]) g inner i 0 rs) = .ok rs' ∧ rs'.map stripR = keepP g i (rs.map stripR) := by
  have hl := splice_len g rs i 0 (by omega) (parse_placed h)
  obtain ⟨h1, _⟩ := parse_inv h
  have := parse_cut h (fun _ => [32]) (fun _ _ _ _ => .one (.inl rfl) .nil) (fun j => g (i + j)) (by rw [splice_shift, Nat.add_zero]; omega)
  obtain ⟨rs', h2, h3⟩ := this
  rw [splice_shift, Nat.add_zero] at h2
  refine ⟨rs', h2, ?_⟩
  rw [h3 stripR (.inl fun _ _ _ => rfl), keepP_shift, Nat.add_zero]
theorem fold_wf (tx : Nat → B) (g : Nat → Bool) : ∀ (T : PT) (d c i : Nat), wfP d T → okP T → allN (fun c al => AttrCond al (tx c)) c T → wfP d (foldP tx g c i T)
  | .nil, _, _, _, _, _, _ => trivial
  | .text x n, d, c, i, hw, ho, ha => ⟨hw.1, hw.2.1, fold_wf tx g n d c i hw.2.2 ho ha⟩
  | .note x n, d, c, i, hw, ho, ha => ⟨hw.1, fold_wf tx g n d c i hw.2 ho ha⟩
  | .elem nm al kids n, d, c, i, ⟨h1, h2, h3, h4, h5, h6⟩, ho, ⟨a1, a2, a3⟩ => ⟨h1, h2, h3, setStyle_ok h4 a1, fold_wf tx g kids _ _ _ h5 ho.1 a2, fold_wf tx g n _ _ _ h6 ho.2 a3⟩
  | .style al inner n, d, c, i, ⟨h1, h4, h5, h6⟩, ⟨⟨rs, hr⟩, ho⟩, ⟨a1, a2⟩ =>
    ⟨h1, setStyle_ok h4 a1, by rw [rulesOf_ok hr]; exact splice_noIn style_end_ok.1 style_end_ok.2 g h5 rs i 0 (by omega) (parse_placed hr), fold_wf tx g n _ _ _ h6 ho a2⟩
theorem fold_ok (tx : Nat → B) (g : Nat → Bool) : ∀ (T : PT) (c i : Nat), okP T → okP (foldP tx g c i T)
  | .nil, _, _, _ => trivial
  | .text x n, c, i, ho => fold_ok tx g n c i ho
  | .note x n, c, i, ho => fold_ok tx g n c i ho
  | .elem nm al kids n, c, i, ho => ⟨fold_ok tx g kids _ _ ho.1, fold_ok tx g n _ _ ho.2⟩
  | .style al inner n, c, i, ⟨⟨rs, hr⟩, ho⟩ => by
    obtain ⟨rs', h1, _⟩ := cut_inner g i hr
    exact ⟨⟨rs', by rw [rulesOf_ok hr]; exact h1⟩, fold_ok tx g n _ _ ho⟩
theorem fold_rules (tx : Nat → B) (g : Nat → Bool) : ∀ (T : PT) (c i p p' : Nat), okP T → (treeRules p' (foldP tx g c i T)).map stripR = keepP g i ((treeRules p T).map stripR)
  | .nil, _, _, _, _, _ => rfl
  | .text x n, c, i, p, p', ho => fold_rules tx g n c i _ _ ho
  | .note x n, c, i, p, p', ho => fold_rules tx g n c i _ _ ho
  | .elem nm al kids n, c, i, p, p', ho => by
    simp only [foldP, treeRules, List.map_append, keepP_app, List.length_map, treeRules_len]
    rw [fold_rules tx g kids _ _ (p + (openText nm al).length) _ ho.1, fold_rules tx g n _ _ (p + (openText nm al).length + (textP kids).length + (closeText nm).length) _ ho.2]
  | .style al inner n, c, i, p, p', ⟨⟨rs, hr⟩, ho⟩ => by
    obtain ⟨rs', h1, h2⟩ := cut_inner g i hr
    simp only [foldP, treeRules, List.map_append, keepP_app, List.length_map, List.map_map]
    rw [rulesOf_ok hr, rulesOf_ok h1, fold_rules tx g n _ _ (p + (openText styleName al).length + inner.length + (closeText styleName).length) _ ho]
    have e : ∀ d, stripR ∘ PRule.shift d = stripR := fun d => rfl
    rw [e, e, h2]
theorem plain_none {rules : List PRule} (h : rulesBad rules = none) : ∀ r ∈ rules, pAll r.decls = some (plainOf r) := by
  intro r hr
  unfold rulesBad at h
  rw [Option.map_eq_none_iff, List.find?_eq_none] at h
  have := h r hr
  unfold plainOf
  cases hp : pAll r.decls with
  | none => rw [hp] at this; simp at this
  | some x => rfl
theorem none_plain {rules : List PRule} (h : ∀ r ∈ rules, pAll r.decls ≠ none) : rulesBad rules = none := by
  unfold rulesBad
  rw [Option.map_eq_none_iff, List.find?_eq_none]
  intro r hr
  have := h r hr
  cases hp : pAll r.decls with
  | none => exact absurd hp this
  | some x => simp
theorem ruleClaims_ok {l : List PNode} {k : Int} {media : List B} : ∀ {rs : List PRule}, (∀ r ∈ rs, pAll r.decls = some (plainOf r)) →
    ruleClaims l k media rs = .ok (rs.flatMap fun r => if (mBest l k r.sels).2 && counts r media then (plainOf r).map (fun x => ⟨x, false, (mBest l k r.sels).1⟩) else [])
  | [], _ => rfl
  | r :: rs, h => by
    have ih := ruleClaims_ok (l := l) (k := k) (media := media) (rs := rs) fun q hq => h q (by simp [hq])
    simp only [ruleClaims, List.flatMap_cons]
    split
    · rw [h r (by simp), ih]; rfl
    · rw [ih]; rfl
def ownOf (n : PNode) : List PDecl := match ownDecls n with
  | .ok d => d
  | .bad _ => []
theorem nodes_own {l : List PNode} (h : nodesBad l = none) {n : PNode} (hn : n ∈ l) : ownDecls n = .ok (ownOf n) ∧ (∀ d ∈ ownOf n, DeclOk d ∧ d.name ≠ edgeName) := by
  have hsp : ownDecls n = .ok (ownOf n) ∧ ∃ v, ∃ ds, sDeclsOf v = .ok ds ∧ pAll ds = some (ownOf n) := by
    unfold nodesBad at h
    rw [List.findSome?_eq_none_iff] at h
    unfold ownOf ownDecls pGet
    cases hf : n.attrs.find? (fun a => a.name == styleName) with
    | none => exact ⟨rfl, [], [], rfl, rfl⟩
    | some a =>
      have ha := List.mem_of_find?_eq_some hf
      have hnm : a.name = styleName := by simpa using List.find?_some hf
      have := h a (List.mem_flatMap.2 ⟨n, hn, ha⟩)
      unfold attrBad at this
      rw [if_pos hnm] at this
      simp only
      cases hd : sDeclsOf a.val with
      | bad f => rw [hd] at this; cases this
      | ok ds =>
        rw [hd] at this
        simp only at this ⊢
        cases hp : pAll ds with
        | none => rw [hp] at this; simp at this
        | some x => exact ⟨rfl, _, _, hd, hp⟩
  obtain ⟨h1, v, ds, h2, h3⟩ := hsp
  exact ⟨h1, fun d hd => ⟨all_ok (declsOf_ok_of h2).1 h3 d hd, all_plain h3 d hd⟩⟩
def rcl (l : List PNode) (k : Int) (media : List B) (rs : List PRule) : List PClaim := rs.flatMap fun r => if (mBest l k r.sels).2 && counts r media then (plainOf r).map (fun x => ⟨x, false, (mBest l k r.sels).1⟩) else []
theorem declared_eq {l : List PNode} {k : Nat} {n : PNode} {rs : List PRule} {media : List B} (hn : l[k]? = some n) (hr : ∀ r ∈ rs, pAll r.decls = some (plainOf r)) (ho : nodesBad l = none) :
    cDeclared l (k : Int) rs media = .ok (cLook (rcl l (k : Int) media rs ++ ownClaims (ownOf n))) := by
  have hk : k < l.length := (List.getElem?_eq_some_iff.1 hn).1
  unfold cDeclared
  rw [if_pos (by unfold inR; simp; omega), Int.toNat_natCast, hn]
  simp only
  unfold cClaims
  rw [ruleClaims_ok hr, Ans.ok_then, (nodes_own ho (List.mem_of_getElem? hn)).1]
  rfl
theorem look_fine {cs : List PClaim} (h : ∀ c ∈ cs, DeclOk c.d ∧ c.d.name ≠ edgeName) : ∀ d ∈ cLook cs, DeclOk d ∧ d.name ≠ edgeName := by
  intro d hd
  obtain ⟨c, hc, rfl⟩ := look_mem.1 hd
  have := winner_fact cs c.d.name
  rw [hc] at this
  exact h c this.1
theorem rcl_fine {l : List PNode} {k : Int} {media : List B} {rs : List PRule} (hr : ∀ r ∈ rs, RuleOk r) (hp : ∀ r ∈ rs, pAll r.decls = some (plainOf r)) : ∀ c ∈ rcl l k media rs, DeclOk c.d ∧ c.d.name ≠ edgeName := by
  intro c hc
  obtain ⟨r, hm, hc⟩ := List.mem_flatMap.1 hc
  split at hc
  · obtain ⟨d, hd, rfl⟩ := List.mem_map.1 hc
    exact ⟨all_ok (hr r hm).decls (hp r hm) d hd, all_plain (hp r hm) d hd⟩
  · cases hc
structure StyleAs (l : List PNode) (k : Nat) (gone : List PRule) (look : List PDecl) : Prop where
  said : cDeclared l (k : Int) gone [] = .ok look
  fine : ∀ d ∈ look, DeclOk d ∧ d.name ≠ edgeName
  text : (styleText l k gone).1 = sPrint look
  fits : (styleText l k gone).2 = decide (look.length ≤ 20)
theorem mem_keepP {α : Type} (p : Nat → Bool) {x : α} : ∀ {xs : List α} {i : Nat}, x ∈ keepP p i xs → x ∈ xs
  | [], _, h => by cases h
  | y :: ys, i, h => by
    simp only [keepP] at h
    split at h
    · exact List.mem_cons_of_mem _ (mem_keepP p h)
    · rcases List.mem_cons.1 h with rfl | h
      · simp
      · exact List.mem_cons_of_mem _ (mem_keepP p h)
theorem style_as {s : B} {l : List PNode} {rules : List PRule} {T : PT} (h : ReadAs s l rules T) {gone : List PRule} (hg : ∀ r ∈ gone, r ∈ rules) {k : Nat} {n : PNode} (hn : l[k]? = some n) :
    StyleAs l k gone (cLook (rcl l (k : Int) [] gone ++ ownClaims (ownOf n))) := by
  have hp : ∀ r ∈ gone, pAll r.decls = some (plainOf r) := fun r hr => plain_none h.plain r (hg r hr)
  have hd := declared_eq (media := []) hn hp h.own
  refine ⟨hd, look_fine fun c hc => ?_, by unfold styleText; rw [hd], by unfold styleText; rw [hd]⟩
  rcases List.mem_append.1 hc with hc | hc
  · exact rcl_fine (fun r hr => treeRules_ok T 0 h.ok r (by rw [← h.rulesEq]; exact hg r hr)) hp c hc
  · obtain ⟨d, hd, rfl⟩ := List.mem_map.1 hc
    exact (nodes_own h.own (List.mem_of_getElem? hn)).2 d hd
theorem getP_style {al : List (B × B)} : (getP al styleName).2 = hasStyle al := by
  unfold getP hasStyle
  induction al with
  | nil => rfl
  | cons a al ih =>
    simp only [List.find?_cons, List.any_cons]
    cases a.1 == styleName with
    | true => rfl
    | false => simpa using ih
theorem getP_set_style {al : List (B × B)} {t : B} : (getP (setStyle al t) styleName).1 = t := by
  have hfilter : ∀ al : List (B × B), (getP (al.filter (fun a => !(a.1 == styleName) || a.2.isEmpty)) styleName).1 = [] := by
    intro al
    unfold getP
    induction al with
    | nil => rfl
    | cons a al ih =>
      simp only [List.filter_cons]
      cases hx : (!(a.1 == styleName) || a.2.isEmpty) with
      | true =>
        simp only [if_true, List.find?_cons]
        cases hc : a.1 == styleName with
        | true =>
          rw [hc] at hx
          simpa using hx
        | false => exact ih
      | false => simp only [Bool.false_eq_true, if_false]; exact ih
  have hmap : ∀ al : List (B × B), hasStyle al = true → (getP (al.map fun a => if a.1 = styleName then (a.1, t) else a) styleName).1 = t := by
    intro al
    unfold getP
    induction al with
    | nil => intro h; cases h
    | cons a al ih =>
      intro h
      rw [hasStyle_cons] at h
      simp only [List.map_cons, List.find?_cons]
      by_cases ha : a.1 = styleName
      · simp [ha]
      · have hc : (a.1 == styleName) = false := by simpa using ha
        simp only [ha, if_false, hc]
        exact ih (by simpa [ha] using h)
  unfold setStyle
  split
  · rename_i hs
    split
    · rename_i ht; rw [ht]; exact hfilter al
    · exact hmap al hs
  · rename_i hs
    split
    · rename_i ht
      have : (getP al styleName).2 = false := by rw [getP_style]; simpa using hs
      unfold getP at this ⊢
      cases hf : al.find? (fun a => a.1 == styleName) with
      | none => rw [ht]
      | some a => rw [hf] at this; cases this
    · simp [getP]
theorem mem_set {al : List (B × B)} {t : B} {a : B × B} (h : a ∈ setStyle al t) (hn : a.1 = styleName) : a.2 = t := by
  unfold setStyle at h
  split at h
  · split at h
    · rename_i ht
      have := (List.mem_filter.1 h).2
      simp [hn] at this
      rw [ht, this]
    · obtain ⟨b, hb, rfl⟩ := List.mem_map.1 h
      split
      · rfl
      · rename_i hx
        rw [if_neg hx] at hn
        exact absurd hn hx
  · rename_i hs
    split at h
    · exfalso
      exact hs (hasStyle_iff.2 (List.mem_map.2 ⟨a, h, hn⟩))
    · rcases List.mem_cons.1 h with rfl | h
      · rfl
      · exfalso
        exact hs (hasStyle_iff.2 (List.mem_map.2 ⟨a, h, hn⟩))
structure FoldAs (s t : B) (l m : List PNode) (rules qs : List PRule) (st : List Bool) (T : PT) : Prop where
  src : ReadAs s l rules T
  len : st.length = rules.length
  dst : ReadAs t m qs (foldP (fun k => (styleText l k (goneR rules st)).1) (goes st) 0 0 T)
  rel : RelL (fun k => (styleText l k (goneR rules st)).1) 0 l m
  kept : qs.map stripR = keepP (goes st) 0 (rules.map stripR)
  style : ∀ (k : Nat) (n : PNode), l[k]? = some n → StyleAs l k (goneR rules st) (cLook (rcl l (k : Int) [] (goneR rules st) ++ ownClaims (ownOf n))) ∧ (cLook (rcl l (k : Int) [] (goneR rules st) ++ ownClaims (ownOf n))).length ≤ 20
theorem fold_reads {s t : B} {l : List PNode} {rules : List PRule} {st : List Bool} {T : PT} (h : ReadAs s l rules T) (hs : st.length = rules.length) (hf : fFold s l rules st = .ok t) : ∃ m qs, FoldAs s t l m rules qs st T := by
  obtain ⟨h1, h2, h3⟩ := fold_as h hs hf
  have hgone : ∀ r ∈ goneR rules st, r ∈ rules := fun r hr => by rw [gone_keep hs] at hr; exact mem_keepP _ hr
  have hsty : ∀ (k : Nat) (n : PNode), l[k]? = some n → StyleAs l k (goneR rules st) (cLook (rcl l (k : Int) [] (goneR rules st) ++ ownClaims (ownOf n))) ∧ (cLook (rcl l (k : Int) [] (goneR rules st) ++ ownClaims (ownOf n))).length ≤ 20 := by
    intro k n hn
    have h4 := style_as h hgone hn
    refine ⟨h4, ?_⟩
    have := (h3 k n hn).1
    rw [h4.fits] at this
    simpa using this
  have hcond : allN (fun c al => AttrCond al (styleText l c (goneR rules st)).1) 0 T := by
    refine all_nodes T 0 0 (-1) fun j n hn => ?_
    rw [← h.nodes] at hn
    rw [Nat.zero_add]
    refine ⟨?_, fun hns h8 => ?_⟩
    · rw [(hsty j n hn).1.text]
      exact print_val fun d hd => ((hsty j n hn).1.fine d hd).1
    · have := (h3 j n hn).2
      rw [pGet_pr, getP_style, hns] at this
      rw [List.length_map] at h8
      exact Classical.byContradiction fun hx => this ⟨rfl, h8, hx⟩
  have hrel := nodes_rel (fun k => (styleText l k (goneR rules st)).1) (goes st) T 0 0 0 0 (-1)
  rw [← h.nodes] at hrel
  have hkept := fold_rules (fun k => (styleText l k (goneR rules st)).1) (goes st) T 0 0 0 0 h.ok
  rw [← h.rulesEq] at hkept
  refine ⟨_, _, h, hs, ⟨h2, fold_wf _ _ T 1 0 0 h.wf h.ok hcond, fold_ok _ _ T 0 0 h.ok, by rw [size_fold]; exact h.few, h1, rfl, rfl, ?_, ?_, ?_⟩, hrel, hkept, hsty⟩
  · have := congrArg List.length hkept
    rw [List.length_map] at this
    have hle := keepP_len (goes st) (rules.map stripR) 0
    rw [List.length_map] at hle
    have := h.most
    omega
  · refine none_plain fun r hr => ?_
    have hm : stripR r ∈ keepP (goes st) 0 (rules.map stripR) := by rw [← hkept]; exact List.mem_map.2 ⟨r, hr, rfl⟩
    obtain ⟨q, hq, he⟩ := List.mem_map.1 (mem_keepP _ hm)
    have h5 := plain_none h.plain q hq
    have h6 : (stripR q).decls = (stripR r).decls := by rw [he]
    change q.decls = r.decls at h6
    rw [← h6, h5]; simp
  · unfold nodesBad
    rw [List.findSome?_eq_none_iff]
    intro a ha
    obtain ⟨m, hm, ham⟩ := List.mem_flatMap.1 ha
    obtain ⟨j, hj⟩ := List.getElem?_of_mem hm
    have hjl : j < l.length := by rw [hrel.len]; exact (List.getElem?_eq_some_iff.1 hj).1
    obtain ⟨m', hm', hnr⟩ := hrel.get (List.getElem?_eq_getElem hjl)
    rw [hj] at hm'
    cases hm'
    unfold attrBad
    split
    · rename_i hnm
      have hmp : pr a ∈ m.attrs.map pr := List.mem_map.2 ⟨a, ham, rfl⟩
      rw [hnr.attrs, Nat.zero_add] at hmp
      have hv : a.val = _ := mem_set hmp hnm
      have hx := hsty j _ (List.getElem?_eq_getElem hjl)
      have hpr := print_read (fun d hd => (hx.1.fine d hd).1) hx.2
      rw [hv, hx.1.text, hpr]
      simp only
      rw [all_of_plain fun d hd => (hx.1.fine d hd).2]
      rfl
    · rfl
end Go.Proofs.YtplbdlgmjehckadGreatDoor

namespace Go.Proofs.YtplbdlgmjehckadGreatDoor
set_option linter.unusedVariables false
set_option linter.unusedSimpArgs false
theorem testsL_lim : ∀ (f : Nat) (ts : List PTest) (q : Bool) (l : B) (a : Nat) (v : List PTest) (l' : B) (a' : Nat), ts.length ≤ 6 → sTestsL f ts q l a = .ok (v, l', a') → v.length ≤ 6 := by
  intro f
  induction f with
  | zero => intro ts q l a v l' a' _ h; cases h
  | succ f ih =>
    intro ts q l a v l' a' ht h
    rw [sTestsL] at h
    obtain ⟨⟨x, l1, a1⟩, h1, h⟩ := then_ok h
    cases x with
    | none =>
      simp only at h
      split at h
      · cases h; exact ht
      · cases h
    | some x =>
      simp only at h
      split at h
      · cases h
      · exact ih _ _ _ _ _ _ _ (by simp; omega) h
theorem tests_lim {l l' : B} {a a' : Nat} {v : List PTest} (h : sTests l a = .ok (v, l', a')) : v.length ≤ 6 := by
  unfold sTests at h
  obtain ⟨⟨ts, q, l1, a1⟩, h1, h⟩ := then_ok h
  refine testsL_lim _ _ _ _ _ _ _ _ ?_ h
  unfold sHead at h1
  split at h1
  · cases h1; simp
  · split at h1
    · cases h1; simp
    · obtain ⟨⟨nm, l2, a2⟩, h2, h1⟩ := then_ok h1
      cases h1; simp
def selLim (s : PSel) : Prop := s.length ≤ 6 ∧ ∀ p ∈ s, p.tests.length ≤ 6
theorem selL_lim : ∀ (f : Nat) (ps : List PPart) (l : B) (a : Nat) (v : PSel) (l' : B) (a' : Nat), selLim ps → sSelL f ps l a = .ok (v, l', a') → selLim v := by
  intro f
  induction f with
  | zero => intro ps l a v l' a' _ h; cases h
  | succ f ih =>
    intro ps l a v l' a' ht h
    rw [sSelL] at h
    obtain ⟨⟨j, l1, a1⟩, h1, h⟩ := then_ok h
    cases j with
    | none => simp only at h; cases h; exact ht
    | some j =>
      simp only at h
      split at h
      · cases h
      · obtain ⟨⟨ts, l2, a2⟩, h2, h⟩ := then_ok h
        refine ih _ _ _ _ _ _ ⟨by simp; have := ht.1; omega, ?_⟩ h
        intro p hp
        rcases List.mem_append.1 hp with hp | hp
        · exact ht.2 p hp
        · simp at hp; subst hp; exact tests_lim h2
theorem sel_lim {l l' : B} {a a' : Nat} {v : PSel} (h : sSel l a = .ok (v, l', a')) : selLim v := by
  unfold sSel at h
  obtain ⟨⟨ts, l1, a1⟩, h1, h⟩ := then_ok h
  refine selL_lim _ _ _ _ _ _ _ ⟨by simp, ?_⟩ h
  intro p hp
  simp at hp; subst hp; exact tests_lim h1
theorem selsL_lim : ∀ (f : Nat) (ss : List PSel) (l : B) (a : Nat) (v : List PSel) (l' : B) (a' : Nat), (ss.length ≤ 8 ∧ ∀ s ∈ ss, selLim s) → sSelsL f ss l a = .ok (v, l', a') → v.length ≤ 8 ∧ ∀ s ∈ v, selLim s := by
  intro f
  induction f with
  | zero => intro ss l a v l' a' _ h; cases h
  | succ f ih =>
    intro ss l a v l' a' hs h
    rw [sSelsL] at h
    split at h
    · cases h
    · rename_i hn
      obtain ⟨⟨x, l1, a1⟩, h1, h⟩ := then_ok h
      have hx : (ss ++ [x]).length ≤ 8 ∧ ∀ s ∈ ss ++ [x], selLim s := by
        refine ⟨by simp; have := hs.1; omega, fun s hm => ?_⟩
        rcases List.mem_append.1 hm with hm | hm
        · exact hs.2 s hm
        · simp at hm; subst hm; exact sel_lim h1
      simp only at h
      split at h
      · obtain ⟨⟨l2, a2⟩, h2, h⟩ := then_ok h
        exact ih _ _ _ _ _ _ hx h
      · cases h; exact hx
structure RuleLim (r : PRule) : Prop where
  sels : r.sels.length ≤ 8
  parts : ∀ s ∈ r.sels, selLim s
  decls : r.decls.length ≤ 20
  each : ∀ d ∈ r.decls, d.name.length ≤ 20 ∧ d.val.length ≤ 60
theorem declOk_lim {d : PDecl} (h : DeclOk d) : d.name.length ≤ 20 ∧ d.val.length ≤ 60 := by
  obtain ⟨h1, ws, _, _, _, h2⟩ := h
  exact ⟨h1.2.2, h2⟩
theorem ruleT_lim {t : B} {ss : List PSel} {ds : List PDecl} (h : RuleT t ss ds) (md : B) (lo hi : Int) : RuleLim ⟨md, ss, ds, lo, hi⟩ := by
  have := h.read [] [] 0
  unfold sRule at this
  obtain ⟨⟨ss1, l1, a1⟩, h1, h⟩ := then_ok this
  obtain ⟨⟨l2, a2⟩, h2, h⟩ := then_ok h
  obtain ⟨⟨ds1, l3, a3⟩, h3, h⟩ := then_ok h
  obtain ⟨⟨l4, a4⟩, h4, h⟩ := then_ok h
  simp only [Ans.ok.injEq, Prod.mk.injEq, PRule.mk.injEq] at h
  obtain ⟨⟨_, rfl, rfl, _⟩, _⟩ := h
  have q := selsL_lim _ _ _ _ _ _ _ ⟨by simp, by simp⟩ h1
  have d := decls_ok_of h3
  exact ⟨q.1, q.2, d.2, fun x hx => declOk_lim (d.1 x hx)⟩
theorem placed_lim {s : B} : ∀ {rs : List PRule} {a : Nat}, Placed s a rs → ∀ r ∈ rs, RuleLim r ∧ 0 ≤ r.lo ∧ r.lo ≤ r.hi ∧ r.hi ≤ s.length
  | [], _, _, r, hr => by cases hr
  | x :: rs, a, ⟨lo, hi, h1, h2, h3, h4, h5, h6, h7⟩, r, hr => by
    rcases List.mem_cons.1 hr with rfl | hr
    · exact ⟨ruleT_lim h6 r.media r.lo r.hi, by omega, by omega, by omega⟩
    · exact placed_lim h7 r hr
theorem sparse_lim {s : B} {rs : List PRule} (h : sParse s = .ok rs) : rs.length ≤ 60 ∧ ∀ r ∈ rs, RuleLim r ∧ 0 ≤ r.lo ∧ r.lo ≤ r.hi ∧ r.hi ≤ s.length :=
  ⟨(parse_inv h).2.1, placed_lim (parse_placed h)⟩
theorem RuleLim.shift {r : PRule} (h : RuleLim r) (d : Nat) : RuleLim (r.shift d) := ⟨h.sels, h.parts, h.decls, h.each⟩
theorem styleRules_lim {s : B} : ∀ {ns : List PNode} {rs : List PRule}, (∀ n ∈ ns, InPl s n) → styleRules s ns = .ok rs → rs.length ≤ 60 * ns.length ∧ ∀ r ∈ rs, RuleLim r ∧ 0 ≤ r.lo ∧ r.lo ≤ r.hi ∧ r.hi ≤ s.length
  | [], rs, _, h => by cases h; simp
  | n :: ns, rs, hp, h => by
    simp only [styleRules] at h
    split at h
    · cases hs : sParse (sub s n.inF.toNat n.inT.toNat) with
      | bad f => rw [hs] at h; cases h
      | ok xs =>
        rw [hs] at h
        obtain ⟨qs, hq, h⟩ := then_ok h
        cases h
        obtain ⟨i1, i2⟩ := styleRules_lim (fun m hm => hp m (by simp [hm])) hq
        obtain ⟨s1, s2⟩ := sparse_lim hs
        obtain ⟨p, q, e1, e2, e3, e4⟩ := hp n (by simp)
        refine ⟨by simp; omega, fun r hr => ?_⟩
        rcases List.mem_append.1 hr with hr | hr
        · obtain ⟨x, hx, rfl⟩ := List.mem_map.1 hr
          obtain ⟨b1, b2, b3, b4⟩ := s2 x hx
          refine ⟨b1.shift _, ?_⟩
          have hl : (sub s n.inF.toNat n.inT.toNat).length = q - p := by rw [e1, e2, Int.toNat_natCast, Int.toNat_natCast]; exact sub_len s e3 e4
          rw [hl] at b4
          have el : (x.shift n.inF.toNat).lo = x.lo + (n.inF.toNat : Int) := rfl
          have eh : (x.shift n.inF.toNat).hi = x.hi + (n.inF.toNat : Int) := rfl
          rw [el, eh, e1, Int.toNat_natCast]
          omega
        · exact i2 r hr
    · obtain ⟨i1, i2⟩ := styleRules_lim (fun m hm => hp m (by simp [hm])) h
      exact ⟨by simp; omega, i2⟩
structure NodeLim (s : B) (n : PNode) : Prop where
  attrs : ∀ a ∈ n.attrs, a.name.length ≤ s.length ∧ a.val.length ≤ s.length ∧ 0 ≤ a.lo ∧ a.lo ≤ a.hi ∧ a.hi ≤ s.length
  parent : -1 ≤ n.parent ∧ n.parent ≤ s.length + 200
  nameEnd : 0 ≤ n.nameEnd ∧ n.nameEnd ≤ s.length
  name : n.name.length ≤ s.length
  inner : InPl s n
theorem page_lim {s : B} {ns : List PNode} (h : pParse s = .ok ns) : s.length ≤ 6000 ∧ ns.length ≤ 120 ∧ (∀ n ∈ ns, NodeLim s n) ∧ ∀ n ∈ ns, n.attrs.length ≤ 8 := by
  obtain ⟨h1, T, h2, h3, h4, h5⟩ := page_inv h
  have hf := parse_fact s
  rw [h] at hf
  have hl : ns.length ≤ 120 := by rw [h5, nodesP_len]; exact h3
  refine ⟨h1, hl, fun n hn => ?_, fun n hn => ?_⟩
  · obtain ⟨i, hi⟩ := List.getElem?_of_mem hn
    have hil := (List.getElem?_eq_some_iff.1 hi).1
    obtain ⟨p1, p2, ⟨e, e1, e2, e3, e4, e5⟩, p4⟩ := hf i n hi
    refine ⟨fun a ha => ?_, ⟨p1, by omega⟩, ⟨by omega, by omega⟩, by omega, p4⟩
    obtain ⟨b, c, g1, g2, g3, g4, g5, g6⟩ := e5 a ha
    have := congrArg List.length g6
    rw [sub_len s g4 g5] at this
    simp at this
    omega
  · rw [h5] at hn
    have key : ∀ (T : PT) (d : Nat) (par : Int) (c p : Nat), wfP d T → ∀ n ∈ nodesP par c p T, n.attrs.length ≤ 8 := by
      intro T
      induction T with
      | nil => intro d par c p _ n hn; cases hn
      | text x n ih => intro d par c p hw m hm; exact ih d par c _ hw.2.2 m hm
      | note x n ih => intro d par c p hw m hm; exact ih d par c _ hw.2 m hm
      | elem nm al kids n ih1 ih2 =>
        intro d par c p hw m hm
        obtain ⟨w1, w2, w3, w4, w5, w6⟩ := hw
        simp only [nodesP, List.mem_cons, List.mem_append] at hm
        rcases hm with rfl | hm | hm
        · rw [attrsAt_len]; exact w4.few
        · exact ih1 _ _ _ _ w5 m hm
        · exact ih2 _ _ _ _ w6 m hm
      | style al inner n ih =>
        intro d par c p hw m hm
        obtain ⟨w1, w4, w5, w6⟩ := hw
        simp only [nodesP, List.mem_cons] at hm
        rcases hm with rfl | hm
        · rw [attrsAt_len]; exact w4.few
        · exact ih _ _ _ _ w6 m hm
    exact key T 1 _ _ _ h2 n hn
structure ReadLim (s : B) (l : List PNode) (rules : List PRule) : Prop where
  len : s.length ≤ 6000
  nodes : l.length ≤ 120
  node : ∀ n ∈ l, NodeLim s n
  attrs : ∀ n ∈ l, n.attrs.length ≤ 8
  most : rules.length ≤ 60
  rule : ∀ r ∈ rules, RuleLim r ∧ 0 ≤ r.lo ∧ r.lo ≤ r.hi ∧ r.hi ≤ s.length
theorem read_lim {s : B} {l : List PNode} {rules : List PRule} (h : fRead s = .ok (l, rules)) : ReadLim s l rules := by
  unfold fRead at h
  obtain ⟨l1, h1, h⟩ := then_ok h
  obtain ⟨rs, h2, h⟩ := then_ok h
  split at h
  · cases h
  · rename_i hn
    cases h3 : rulesBad rs with
    | some f => rw [h3] at h; cases h
    | none =>
      cases h4 : nodesBad l1 with
      | some f => rw [h3, h4] at h; cases h
      | none =>
        rw [h3, h4] at h
        cases h
        obtain ⟨a1, a2, a3, a4⟩ := page_lim h1
        exact ⟨a1, a2, a3, a4, by omega, (styleRules_lim (fun n hn => (a3 n hn).inner) h2).2⟩
end Go.Proofs.YtplbdlgmjehckadGreatDoor

namespace Go.Proofs.YtplbdlgmjehckadGreatDoor
set_option linter.unusedVariables false
set_option linter.unusedSimpArgs false
theorem insName_len (n : B) : ∀ xs : List B, (insName n xs).length ≤ xs.length + 1
  | [] => by simp [insName]
  | x :: xs => by
    have := insName_len n xs
    simp only [insName]
    split
    · simp
    · split
      · simp; omega
      · simp
theorem cLook_len (cs : List PClaim) : (cLook cs).length ≤ cs.length := by
  have h1 : ∀ (cs : List PClaim) (acc : List B), (cs.foldl (fun acc c => insName c.d.name acc) acc).length ≤ acc.length + cs.length := by
    intro cs
    induction cs with
    | nil => intro acc; simp
    | cons c cs ih =>
      intro acc
      have := ih (insName c.d.name acc)
      have := insName_len c.d.name acc
      simp; omega
  unfold cLook
  have h2 := h1 cs []
  have h3 := List.length_filterMap_le (fun n => (winner cs n).map (·.d)) (namesOf cs)
  have h4 : (namesOf cs).length ≤ 0 + cs.length := h2
  omega
theorem expand_four {d : PDecl} {x : List PDecl} (h : pExpand d = some x) : x.length ≤ 4 := by
  unfold pExpand at h
  split at h
  · split at h
    all_goals first
      | (cases h; simp [edges])
      | cases h
  · cases h; simp
theorem all_four : ∀ {l x : List PDecl}, pAll l = some x → x.length ≤ 4 * l.length
  | [], x, h => by cases h; simp
  | d :: ds, x, h => by
    obtain ⟨a, b, h1, h2, rfl⟩ := all_cons h
    have := expand_four h1
    have := all_four h2
    simp; omega
theorem rcl_len {l : List PNode} {k : Int} {media : List B} : ∀ {rs : List PRule}, (∀ r ∈ rs, RuleLim r) → (rcl l k media rs).length ≤ 80 * rs.length
  | [], _ => by simp [rcl]
  | r :: rs, h => by
    have ih := rcl_len (l := l) (k := k) (media := media) fun q hq => h q (List.mem_cons_of_mem r hq)
    have hd := (h r (by simp)).decls
    have hp : (plainOf r).length ≤ 80 := by
      unfold plainOf
      cases hp : pAll r.decls with
      | none => simp
      | some x => have := all_four hp; simp; omega
    unfold rcl at ih ⊢
    rw [List.flatMap_cons, List.length_append, List.length_cons]
    split
    · rw [List.length_map]; omega
    · rw [List.length_nil]; omega
theorem look_lim {s : B} {l : List PNode} {rules : List PRule} {T : PT} (h : ReadAs s l rules T) (L : ReadLim s l rules) {gone : List PRule} (hg : ∀ r ∈ gone, r ∈ rules) (hn : gone.length ≤ rules.length) {k : Nat} {n : PNode} (hk : l[k]? = some n) :
    ∃ look, cDeclared l (k : Int) gone [] = .ok look ∧ look.length ≤ 5000 ∧ (∀ d ∈ look, DeclOk d) ∧ (styleText l k gone).1 = sPrint look ∧ (styleText l k gone).2 = decide (look.length ≤ 20) := by
  have H := style_as h hg hk
  refine ⟨_, H.said, ?_, fun d hd => (H.fine d hd).1, H.text, H.fits⟩
  have h1 := cLook_len (rcl l (k : Int) [] gone ++ ownClaims (ownOf n))
  have h2 := rcl_len (l := l) (k := (k : Int)) (media := []) (rs := gone) fun r hr => (L.rule r (hg r hr)).1
  have h3 := L.most
  have h4 : (ownOf n).length ≤ 80 := by
    have ho := (nodes_own h.own (List.mem_of_getElem? hk)).1
    unfold ownDecls at ho
    cases hd : sDeclsOf (pGet n.attrs styleName).1 with
    | bad f => rw [hd] at ho; cases ho
    | ok ds =>
      rw [hd] at ho
      simp only at ho
      cases hp : pAll ds with
      | none => rw [hp] at ho; cases ho
      | some x =>
        rw [hp] at ho
        simp only [Ans.ok.injEq] at ho
        have := all_four hp
        have := (declsOf_ok_of hd).2
        rw [← ho]; omega
  have h5 : (rcl l (k : Int) [] gone ++ ownClaims (ownOf n)).length = (rcl l (k : Int) [] gone).length + (ownOf n).length := by rw [List.length_append]; simp [ownClaims]
  omega
def allEd (rules : List PRule) (st : List Bool) (es : List PEdit) : List PEdit := (goneR rules st).map goneEd ++ es
theorem edits_as {s : B} {l : List PNode} {rules : List PRule} {st : List Bool} {T : PT} {es : List PEdit} (h : ReadAs s l rules T) (hs : st.length = rules.length) (he : ownsEd l (goneR rules st) 0 l = .ok es) :
    EdRise (sortEd (allEd rules st es)) ∧ EdOk s 0 (sortEd (allEd rules st es)) := by
  obtain ⟨rfl, hc⟩ := ownsEd_ok he
  have hr := (tree_rise (fun k => (styleText l k (goneR rules st)).1) (goes st) T 0 0 0 h.ok).1
  have ht : sortEd (allEd rules st (ownL (fun k => (styleText l k (goneR rules st)).1) 0 l)) = treeEd (fun k => (styleText l k (goneR rules st)).1) (goes st) 0 0 0 T := by
    refine sortEd_eq hr ?_
    refine (tree_perm _ _ T 0 0 0).trans ?_
    unfold allEd
    rw [← gone_tree _ T 0 0 h.ok, ← h.rulesEq, ← gone_keep hs, ← own_tree _ T 1 0 0 (-1) h.wf, ← h.nodes]
  have hp := page_makes (fun k => (styleText l k (goneR rules st)).1) (goes st) h.wf h.ok
  rw [← h.text] at hp
  rw [ht]
  exact ⟨hr, hp.1⟩
theorem sorted_is {xs ys : List PEdit} (hr : EdRise (sortEd xs)) (hp : ys.Perm xs) (hs : ys.Pairwise (fun a b => a.lo ≤ b.lo)) : ys = sortEd xs := by
  refine EdRise.unique (rise_of_sorted hs ?_) hr (hp.trans (sortEd_perm xs).symm)
  rw [((hp.trans (sortEd_perm xs).symm).map (·.lo)).nodup_iff]
  generalize sortEd xs = zs at hr
  clear hs hp
  induction hr with
  | nil => simp
  | cons h hs ih =>
    rw [List.map_cons, List.nodup_cons]
    refine ⟨fun hm => ?_, ih⟩
    obtain ⟨y, hy, he⟩ := List.mem_map.1 hm
    have := h y hy
    omega
theorem edOk_lo {s : B} : ∀ {es : List PEdit} {a : Nat}, EdOk s a es → ∀ e ∈ es, e.lo ≤ s.length ∧ e.hi ≤ s.length
  | [], _, _, e, he => by cases he
  | x :: xs, a, ⟨h1, h2, h3, h4⟩, e, he => by
    rcases List.mem_cons.1 he with rfl | he
    · omega
    · exact edOk_lo h4 e he
theorem editsF_len {s : B} {M : Nat} : ∀ {es : List PEdit} {a : Nat}, EdOk s a es → (∀ e ∈ es, e.text.length ≤ M) → (editsF s a es).length ≤ s.length + M * es.length
  | [], a, h, _ => by simp [editsF]
  | e :: es, a, h, hM => by
    have key : ∀ {es : List PEdit} {a : Nat}, EdOk s a es → (∀ e ∈ es, e.text.length ≤ M) → (editsF s a es).length + a ≤ s.length + M * es.length := by
      intro es
      induction es with
      | nil => intro a h _; simp only [editsF, List.length_drop, List.length_nil, Nat.mul_zero, Nat.add_zero]; have := EdOk.le h; omega
      | cons e es ih =>
        intro a ⟨h1, h2, h3, h4⟩ hM
        have := ih h4 fun x hx => hM x (List.mem_cons_of_mem _ hx)
        have := hM e (by simp)
        have := sub_len s h1 (by omega : e.lo ≤ s.length)
        simp only [editsF, List.length_append, List.length_cons, Nat.mul_add, Nat.mul_one]
        omega
    have := key h hM
    omega
theorem goneR_sub : ∀ {rs : List PRule} {bs : List Bool}, (∀ r ∈ goneR rs bs, r ∈ rs) ∧ (goneR rs bs).length ≤ rs.length
  | [], _ => by cases ‹List Bool› <;> simp [goneR]
  | r :: rs, [] => by simp [goneR]
  | r :: rs, b :: bs => by
    have ih := goneR_sub (rs := rs) (bs := bs)
    simp only [goneR]
    split
    · exact ⟨fun q hq => List.mem_cons_of_mem _ (ih.1 q hq), by have := ih.2; simp; omega⟩
    · refine ⟨fun q hq => ?_, by have := ih.2; simp; omega⟩
      rcases List.mem_cons.1 hq with rfl | hq
      · simp
      · exact List.mem_cons_of_mem _ (ih.1 q hq)
theorem goneR_take : ∀ {rs : List PRule} {bs : List Bool} {i : Nat} {r : PRule} {b : Bool}, rs[i]? = some r → bs[i]? = some b → goneR (rs.take (i + 1)) (bs.take (i + 1)) = goneR (rs.take i) (bs.take i) ++ (if b then [] else [r])
  | [], _, i, r, b, h, _ => by simp at h
  | _ :: _, [], i, r, b, _, h => by simp at h
  | x :: rs, y :: bs, 0, r, b, h, g => by
    simp at h g; subst h g
    cases y <;> simp [goneR]
  | x :: rs, y :: bs, i + 1, r, b, h, g => by
    have := goneR_take (rs := rs) (bs := bs) (i := i) (by simpa using h) (by simpa using g)
    simp only [List.take_succ_cons, goneR] at this ⊢
    rw [this]
    cases y <;> simp
def foldFin (s : B) (E : List PEdit) : Ans B := if 6000 < (editsF s 0 (sortEd E)).length then .bad ⟨4, 0⟩ else .ok (editsF s 0 (sortEd E))
theorem fFold_eq (s : B) (l : List PNode) (rules : List PRule) (st : List Bool) : fFold s l rules st = (ownsEd l (goneR rules st) 0 l).then fun es => foldFin s ((goneR rules st).map goneEd ++ es) := rfl
theorem owns_step {α : Type} (l : List PNode) (gone : List PRule) (k : Nat) (n : PNode) (ns : List PNode) (E : List PEdit) (K : List PEdit → Ans α) :
    ((ownsEd l gone k (n :: ns)).then fun es => K (E ++ es)) = if (styleText l k gone).2 = false ∨ (pGet n.attrs styleName).2 = false ∧ n.attrs.length = 8 ∧ (styleText l k gone).1 ≠ [] then .bad ⟨5, n.nameEnd.toNat⟩
      else (ownsEd l gone (k + 1) ns).then fun es => K ((E ++ (fOwn n (styleText l k gone).1).toList) ++ es) := by
  simp only [ownsEd]
  split
  · rfl
  · cases ownsEd l gone (k + 1) ns with
    | bad f => rfl
    | ok es => simp only [Ans.ok_then, List.append_assoc]
theorem owns_more {l : List PNode} {gone : List PRule} {k : Nat} {n : PNode} {ns : List PNode} {es : List PEdit} (h : ¬ ((styleText l k gone).2 = false ∨ (pGet n.attrs styleName).2 = false ∧ n.attrs.length = 8 ∧ (styleText l k gone).1 ≠ [])) (he : ownsEd l gone (k + 1) ns = .ok es) :
    ownsEd l gone k (n :: ns) = .ok ((fOwn n (styleText l k gone).1).toList ++ es) := by
  simp only [ownsEd]
  rw [if_neg h, he]
  rfl
theorem fOwn_len {n : PNode} {t : B} {x : PEdit} (h : fOwn n t = some x) : x.text.length ≤ t.length + 9 := by
  unfold fOwn at h
  split at h
  · cases h
  · cases h
    simp only
    split
    · simp
    · simp [styleHead]
end Go.Proofs.YtplbdlgmjehckadGreatDoor

namespace Go.Proofs.YtplbdlgmjehckadGreatDoor
set_option linter.unusedVariables false
set_option linter.unusedSimpArgs false
def rdNodes (l : List PNode) (all : List PRule) (as' : List PAttr) : Ans (List PNode × List PRule) := match as'.findSome? attrBad with
  | some f => .bad f
  | none => .ok (l, all)
def rdRules (l : List PNode) (all rs : List PRule) : Ans (List PNode × List PRule) := match rulesBad rs with
  | some f => .bad f
  | none => rdNodes l all (l.flatMap (·.attrs))
def rdRest (l : List PNode) (rs : List PRule) : Ans (List PNode × List PRule) := if 60 < rs.length then .bad ⟨5, 0⟩ else rdRules l rs rs
theorem fRead_eq (s : B) : fRead s = (pParse s).then fun l => (styleRules s l).then fun rs => rdRest l rs := by
  rfl
theorem rdRules_cons (l : List PNode) (all : List PRule) (r : PRule) (rs : List PRule) : rdRules l all (r :: rs) = if (pAll r.decls).isNone = true then .bad ⟨5, r.lo.toNat⟩ else rdRules l all rs := by
  unfold rdRules rulesBad
  rw [List.find?_cons]
  cases h : (pAll r.decls).isNone with
  | true => rfl
  | false => rfl
theorem rdRules_nil (l : List PNode) (all : List PRule) : rdRules l all [] = rdNodes l all (l.flatMap (·.attrs)) := rfl
theorem rdNodes_cons (l : List PNode) (all : List PRule) (a : PAttr) (as' : List PAttr) : rdNodes l all (a :: as') = match attrBad a with | some f => .bad f | none => rdNodes l all as' := by
  unfold rdNodes
  rw [List.findSome?_cons]
  cases attrBad a <;> rfl
theorem style_step {α : Type} (s : B) (n : PNode) (ns : List PNode) (rs : List PRule) (K : List PRule → Ans α) :
    ((styleRules s (n :: ns)).then fun qs => K (rs ++ qs)) = if n.name = styleName then (match sParse (sub s n.inF.toNat n.inT.toNat) with
      | .bad f => .bad ⟨f.err, n.inF.toNat + f.pos⟩
      | .ok xs => (styleRules s ns).then fun qs => K ((rs ++ xs.map (PRule.shift n.inF.toNat)) ++ qs)) else (styleRules s ns).then fun qs => K (rs ++ qs) := by
  simp only [styleRules]
  split
  · cases sParse (sub s n.inF.toNat n.inT.toNat) with
    | bad f => rfl
    | ok xs =>
      simp only
      cases styleRules s ns with
      | bad g => rfl
      | ok qs => simp only [Ans.ok_then, List.append_assoc]
  · rfl
theorem styleRules_err {s : B} : ∀ {ns : List PNode} {f : Flt}, styleRules s ns = .bad f → f.err ≠ 0
  | [], f, h => by cases h
  | n :: ns, f, h => by
    simp only [styleRules] at h
    split at h
    · cases hs : sParse (sub s n.inF.toNat n.inT.toNat) with
      | bad g => rw [hs] at h; cases h; exact (sparse_bad hs).1
      | ok xs =>
        rw [hs] at h
        cases hq : styleRules s ns with
        | bad g => rw [hq] at h; cases h; exact styleRules_err hq
        | ok qs => rw [hq] at h; cases h
    · exact styleRules_err h
theorem attrBad_err {a : PAttr} {f : Flt} (h : attrBad a = some f) : f.err ≠ 0 := by
  unfold attrBad at h
  split at h
  · cases hd : sDeclsOf a.val with
    | bad g => rw [hd] at h; cases h; exact (sdeclsOf_bad hd).1
    | ok ds =>
      rw [hd] at h
      simp only at h
      split at h
      · cases h; simp
      · cases h
  · cases h
theorem read_err {s : B} {f : Flt} (h : fRead s = .bad f) : f.err ≠ 0 := by
  rw [fRead_eq] at h
  cases hp : pParse s with
  | bad g =>
    rw [hp] at h; cases h
    have := parse_fact s
    rw [hp] at this
    exact this.1
  | ok l =>
    rw [hp, Ans.ok_then] at h
    cases hs : styleRules s l with
    | bad g => rw [hs] at h; cases h; exact styleRules_err hs
    | ok rs =>
      rw [hs, Ans.ok_then] at h
      unfold rdRest at h
      split at h
      · cases h; simp
      · unfold rdRules at h
        cases hr : rulesBad rs with
        | some g =>
          rw [hr] at h; cases h
          unfold rulesBad at hr
          rw [Option.map_eq_some_iff] at hr
          obtain ⟨r, _, rfl⟩ := hr
          simp
        | none =>
          rw [hr] at h
          simp only at h
          unfold rdNodes at h
          cases hn : (l.flatMap (·.attrs)).findSome? attrBad with
          | some g =>
            rw [hn] at h; cases h
            obtain ⟨a, _, ha⟩ := List.exists_of_findSome?_eq_some hn
            exact attrBad_err ha
          | none => rw [hn] at h; cases h
end Go.Proofs.YtplbdlgmjehckadGreatDoor

namespace Go.Proofs.YtplbdlgmjehckadGreatDoor
set_option linter.unusedVariables false
set_option linter.unusedSimpArgs false
structure SvM where
  ms : List (Nat × B)
  more : Bool
def svAdd (x : SvM) (p : Nat × B) : SvM := if p ∈ x.ms then x else ⟨x.ms ++ [p], true⟩
def svAddAll (x : SvM) (ps : List (Nat × B)) : SvM := ps.foldl svAdd x
def svLeft (all ms : List (Nat × B)) : Nat := all.countP (fun p => decide (p ∉ ms))
theorem svAdd_sub (x : SvM) (p : Nat × B) : ∀ q ∈ x.ms, q ∈ (svAdd x p).ms := by
  intro q hq; unfold svAdd; split
  · exact hq
  · exact List.mem_append_left _ hq
theorem svAdd_mem (x : SvM) (p : Nat × B) : p ∈ (svAdd x p).ms := by
  unfold svAdd; split
  · assumption
  · simp
theorem svAdd_more (x : SvM) (p : Nat × B) (h : (svAdd x p).more = false) : svAdd x p = x := by
  unfold svAdd at h ⊢; split
  · rfl
  · rename_i hp; rw [if_neg hp] at h; cases h
theorem svAdd_from (x : SvM) (p : Nat × B) : ∀ q ∈ (svAdd x p).ms, q ∈ x.ms ∨ q = p := by
  intro q hq; unfold svAdd at hq; split at hq
  · exact .inl hq
  · simpa using hq
theorem svAddAll_sub : ∀ (ps : List (Nat × B)) (x : SvM), ∀ q ∈ x.ms, q ∈ (svAddAll x ps).ms
  | [], _, _, h => h
  | p :: ps, x, q, h => svAddAll_sub ps (svAdd x p) q (svAdd_sub x p q h)
theorem svAddAll_mem : ∀ (ps : List (Nat × B)) (x : SvM), ∀ q ∈ ps, q ∈ (svAddAll x ps).ms
  | p :: ps, x, q, h => by
    rcases List.mem_cons.1 h with rfl | h
    · exact svAddAll_sub ps _ q (svAdd_mem x q)
    · exact svAddAll_mem ps (svAdd x p) q h
theorem svAddAll_from : ∀ (ps : List (Nat × B)) (x : SvM), ∀ q ∈ (svAddAll x ps).ms, q ∈ x.ms ∨ q ∈ ps
  | [], _, _, h => .inl h
  | p :: ps, x, q, h => by
    rcases svAddAll_from ps (svAdd x p) q h with h | h
    · rcases svAdd_from x p q h with h | rfl
      · exact .inl h
      · exact .inr (by simp)
    · exact .inr (by simp [h])
theorem svAddAll_more : ∀ (ps : List (Nat × B)) (x : SvM), (svAddAll x ps).more = false → svAddAll x ps = x
  | [], _, _ => rfl
  | p :: ps, x, h => by
    have h1 : svAddAll (svAdd x p) ps = svAdd x p := svAddAll_more ps (svAdd x p) h
    show svAddAll (svAdd x p) ps = x
    have h2 : (svAddAll (svAdd x p) ps).more = false := h
    rw [h1] at h2 ⊢
    exact svAdd_more x p h2
theorem svLeft_le {all ms ms' : List (Nat × B)} (h : ∀ q ∈ ms, q ∈ ms') : svLeft all ms' ≤ svLeft all ms := by
  unfold svLeft
  refine List.countP_mono_left (fun p _ hp => ?_)
  simp only [decide_eq_true_eq] at hp ⊢
  exact fun hq => hp (h p hq)
theorem svLeft_lt : ∀ {all ms ms' : List (Nat × B)} {p : Nat × B}, (∀ q ∈ ms, q ∈ ms') → p ∈ all → p ∉ ms → p ∈ ms' → svLeft all ms' < svLeft all ms
  | [], _, _, _, _, h, _, _ => by cases h
  | a :: all, ms, ms', p, hs, h, h1, h2 => by
    have hle := svLeft_le (all := all) hs
    have e : ∀ (b : Bool) (n : Nat), n + (if b = true then 1 else 0) = n + b.toNat := by intro b n; cases b <;> rfl
    unfold svLeft at hle ⊢
    rw [List.countP_cons, List.countP_cons, e, e]
    rcases List.mem_cons.1 h with rfl | h
    · have e1 : (decide (p ∉ ms')) = false := by simp [h2]
      have e2 : (decide (p ∉ ms)) = true := by simp [h1]
      rw [e1, e2]; simp only [Bool.toNat_false, Bool.toNat_true]; omega
    · have := svLeft_lt hs h h1 h2
      unfold svLeft at this
      have e3 : (decide (a ∉ ms')).toNat ≤ (decide (a ∉ ms)).toNat := by
        by_cases ha : a ∈ ms
        · have ha' := hs a ha
          simp [ha, ha']
        · have e2 : (decide (a ∉ ms)) = true := by simp [ha]
          rw [e2]; exact Bool.toNat_le _
      omega
theorem svAdd_left {all : List (Nat × B)} (x : SvM) (p : Nat × B) (hp : p ∈ all) : svLeft all (svAdd x p).ms ≤ svLeft all x.ms ∧ ((svAdd x p).more = true → x.more = true ∨ svLeft all (svAdd x p).ms < svLeft all x.ms) := by
  refine ⟨svLeft_le (svAdd_sub x p), fun h => ?_⟩
  by_cases hm : p ∈ x.ms
  · left; unfold svAdd at h; rw [if_pos hm] at h; exact h
  · exact .inr (svLeft_lt (svAdd_sub x p) hp hm (svAdd_mem x p))
structure SvS where
  sb : List Bool
  m : SvM
def svStep (ps : List (Nat × B)) (i : Nat) (s : SvS) : SvS :=
  if (s.sb[i]? == some true) || ps.any (fun p => decide (p ∈ s.m.ms)) then ⟨s.sb.set i true, svAddAll s.m ps⟩ else ⟨s.sb.set i false, s.m⟩
variable {ns : List PNode} {rules : List PRule}
structure SvInv (ns : List PNode) (rules : List PRule) (sb : List Bool) (ms : List (Nat × B)) : Prop where
  len : sb.length = rules.length
  sound : ∀ i : Nat, sb[i]? = some true → Stay ns rules i
  blk : ∀ p ∈ ms, ∃ (j : Nat) (r : PRule), rules[j]? = some r ∧ Stay ns rules j ∧ p ∈ touches ns r
  media : ∀ (i : Nat) (r : PRule), rules[i]? = some r → r.media ≠ [] → sb[i]? = some true
structure SvAt (ns : List PNode) (rules : List PRule) (ms0 : List (Nat × B)) (i : Nat) (s : SvS) : Prop where
  inv : SvInv ns rules s.sb s.m.ms
  sub : ∀ q ∈ ms0, q ∈ s.m.ms
  left : s.m.more = true → svLeft (rules.flatMap (touches ns)) s.m.ms < svLeft (rules.flatMap (touches ns)) ms0
  same : s.m.more = false → s.m.ms = ms0 ∧ ∀ (j : Nat), j < i → ∀ (r : PRule), rules[j]? = some r → ((∃ p ∈ touches ns r, p ∈ ms0) → s.sb[j]? = some true) ∧ (s.sb[j]? = some true → ∀ p ∈ touches ns r, p ∈ ms0)
theorem SvAt.start {sb : List Bool} {ms : List (Nat × B)} (h : SvInv ns rules sb ms) : SvAt ns rules ms 0 ⟨sb, ms, false⟩ :=
  ⟨h, fun q hq => hq, fun hh => (by cases hh), fun _ => ⟨rfl, fun j hj => (by omega)⟩⟩
theorem svAddAll_left {all : List (Nat × B)} : ∀ (ps : List (Nat × B)) (x : SvM), (∀ p ∈ ps, p ∈ all) → (svAddAll x ps).more = true → x.more = true ∨ svLeft all (svAddAll x ps).ms < svLeft all x.ms
  | [], _, _, h => .inl h
  | p :: ps, x, hp, h => by
    have h0 := svAdd_left x p (hp p (by simp))
    have hle : svLeft all (svAddAll (svAdd x p) ps).ms ≤ svLeft all (svAdd x p).ms := svLeft_le (svAddAll_sub ps _)
    rcases svAddAll_left ps (svAdd x p) (fun q hq => hp q (by simp [hq])) h with h1 | h1
    · rcases h0.2 h1 with h2 | h2
      · exact .inl h2
      · exact .inr (Nat.lt_of_le_of_lt hle h2)
    · exact .inr (Nat.lt_of_lt_of_le h1 h0.1)
theorem SvAt.step {ms0 : List (Nat × B)} {i : Nat} {s : SvS} {r : PRule} (h : SvAt ns rules ms0 i s) (hr : rules[i]? = some r) : SvAt ns rules ms0 (i + 1) (svStep (touches ns r) i s) := by
  have hil : i < s.sb.length := by rw [h.inv.len]; exact (List.getElem?_eq_some_iff.1 hr).1
  have hall : ∀ p ∈ touches ns r, p ∈ rules.flatMap (touches ns) := fun p hp => List.mem_flatMap.2 ⟨r, List.mem_of_getElem? hr, hp⟩
  unfold svStep
  split
  · rename_i hc
    have hst : Stay ns rules i := by
      rcases (Bool.or_eq_true _ _).mp hc with hc | hc
      · exact h.inv.sound i (by simpa using hc)
      · obtain ⟨p, hp, hq⟩ := List.any_eq_true.1 hc
        obtain ⟨j, q, hj, hs, hpq⟩ := h.inv.blk p (by simpa using hq)
        exact .meet hr hj hs hp hpq
    refine ⟨⟨by simpa using h.inv.len, fun j hj => ?_, fun p hp => ?_, fun j q hj hm => ?_⟩, fun q hq => svAddAll_sub _ _ _ (h.sub q hq), fun hm => ?_, fun hm => ?_⟩
    · rw [List.getElem?_set] at hj
      split at hj
      · rename_i he; exact he ▸ hst
      · exact h.inv.sound j hj
    · rcases svAddAll_from _ _ _ hp with hp | hp
      · exact h.inv.blk p hp
      · exact ⟨i, r, hr, hst, hp⟩
    · rw [List.getElem?_set]
      split
      · rfl
      · exact h.inv.media j q hj hm
    · rcases svAddAll_left _ _ hall hm with h1 | h1
      · exact Nat.lt_of_le_of_lt (svLeft_le (svAddAll_sub _ _)) (h.left h1)
      · exact Nat.lt_of_lt_of_le h1 (svLeft_le h.sub)
    · have he := svAddAll_more _ _ hm
      have hm' : s.m.more = false := by rw [← he]; exact hm
      obtain ⟨h1, h2⟩ := h.same hm'
      refine ⟨(congrArg SvM.ms he).trans h1, fun j hj q hq => ?_⟩
      by_cases hji : j = i
      · subst hji
        rw [hr] at hq; cases hq
        refine ⟨fun _ => by rw [List.getElem?_set, if_pos rfl]; simp [hil], fun _ p hp => ?_⟩
        have := svAddAll_mem (touches ns r) s.m p hp
        rw [he, h1] at this
        exact this
      · rw [List.getElem?_set, if_neg (fun e => hji e.symm)]
        exact h2 j (by omega) q hq
  · rename_i hc
    rw [Bool.not_eq_true, Bool.or_eq_false_iff] at hc
    obtain ⟨hc1, hc2⟩ := hc
    have hsi : s.sb[i]? = some false := by
      have := List.getElem?_eq_getElem hil
      cases hv : s.sb[i] with
      | false => rw [this, hv]
      | true => rw [this, hv] at hc1; simp at hc1
    have hset : s.sb.set i false = s.sb := by
      apply List.ext_getElem?
      intro j
      rw [List.getElem?_set]
      split
      · rename_i he; subst he; rw [hsi]
      · rfl
    simp only [hset]
    refine ⟨h.inv, h.sub, h.left, fun hm => ?_⟩
    obtain ⟨h1, h2⟩ := h.same hm
    refine ⟨h1, fun j hj q hq => ?_⟩
    by_cases hji : j = i
    · subst hji
      rw [hr] at hq; cases hq
      refine ⟨?_, fun hh => by rw [hsi] at hh; cases hh⟩
      rintro ⟨p, hp, hpm⟩
      rw [← h1] at hpm
      have := List.any_eq_false.1 hc2 p hp
      simp [hpm] at this
    · exact h2 j (by omega) q hq
theorem SvAt.done {ms0 : List (Nat × B)} {s : SvS} (h : SvAt ns rules ms0 rules.length s) (hm : s.m.more = false) : IsStays ns rules s.sb := by
  obtain ⟨h1, h2⟩ := h.same hm
  have key : ∀ i, Stay ns rules i → s.sb[i]? = some true := by
    intro i hi
    induction hi with
    | media hr hmd => exact h.inv.media _ _ hr hmd
    | meet hi hj hs p1 p2 ih =>
      have := (h2 _ (List.getElem?_eq_some_iff.1 hj).1 _ hj).2 ih _ p2
      exact (h2 _ (List.getElem?_eq_some_iff.1 hi).1 _ hi).1 ⟨_, p1, this⟩
  refine ⟨h.inv.len, fun i b hb => ⟨fun e => h.inv.sound i (by rw [hb, e]), fun hs => ?_⟩⟩
  have := key i hs
  rw [hb] at this
  exact Option.some.inj this
theorem SvInv.start (ns : List PNode) (rules : List PRule) : SvInv ns rules (rules.map fun r => decide (r.media ≠ [])) [] := by
  refine ⟨by simp, fun i hi => ?_, fun p hp => (List.not_mem_nil hp).elim, fun i r hr hm => ?_⟩
  · rw [List.getElem?_map] at hi
    cases hr : rules[i]? with
    | none => rw [hr] at hi; cases hi
    | some r =>
      rw [hr] at hi
      simp only [Option.map_some, Option.some.injEq, decide_eq_true_eq] at hi
      exact .media hr hi
  · rw [List.getElem?_map, hr]
    simp [hm]
end Go.Proofs.YtplbdlgmjehckadGreatDoor

