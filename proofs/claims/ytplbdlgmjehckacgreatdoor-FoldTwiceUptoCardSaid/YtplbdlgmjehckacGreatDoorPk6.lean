/-
  Lemmas for the claims of this seat: the program's functions walked, and plain laws. In this order: FoSpec FoTree FoPerm.
-/
import Derived.Test.YtplbdlgmjehckacGreatDoorPk5
import Derived.Test.YtplbdlgmjehckacGreatDoorPk4
namespace Go.Proofs.YtplbdlgmjehckacGreatDoor
set_option linter.unusedVariables false
set_option linter.unusedSimpArgs false
def styleRules (s : B) : List PNode → Ans (List PRule)
  | [] => .ok []
  | n :: ns =>
    if n.name = styleName then
      match sParse (sub s n.inF.toNat n.inT.toNat) with
      | .bad f => .bad ⟨f.err, n.inF.toNat + f.pos⟩
      | .ok rs => (styleRules s ns).then fun qs => .ok (rs.map (PRule.shift n.inF.toNat) ++ qs)
    else styleRules s ns
def rulesBad (rs : List PRule) : Option Flt := (rs.find? fun r => (pAll r.decls).isNone).map fun r => ⟨5, r.lo.toNat⟩
def attrBad (a : PAttr) : Option Flt :=
  if a.name = styleName then
    match sDeclsOf a.val with
    | .bad f => some ⟨f.err, a.lo.toNat⟩
    | .ok ds => if (pAll ds).isNone then some ⟨5, a.lo.toNat⟩ else none
  else none
def nodesBad (l : List PNode) : Option Flt := (l.flatMap (·.attrs)).findSome? attrBad
def fRead (s : B) : Ans (List PNode × List PRule) :=
  (pParse s).then fun l => (styleRules s l).then fun rs =>
  if 60 < rs.length then .bad ⟨5, 0⟩ else
  match rulesBad rs with
  | some f => .bad f
  | none => match nodesBad l with
    | some f => .bad f
    | none => .ok (l, rs)
def plainOf (r : PRule) : List PDecl := (pAll r.decls).getD []
def touchAt (l : List PNode) (r : PRule) (k : Nat) : List (Nat × B) := if (mBest l (k : Int) r.sels).2 then (plainOf r).map fun d => (k, d.name) else []
def touches (l : List PNode) (r : PRule) : List (Nat × B) := (List.range l.length).flatMap (touchAt l r)
theorem mem_touches {l : List PNode} {r : PRule} {k : Nat} {n : B} : (k, n) ∈ touches l r ↔ k < l.length ∧ (mBest l (k : Int) r.sels).2 = true ∧ ∃ d ∈ plainOf r, d.name = n := by
  unfold touches touchAt
  simp only [List.mem_flatMap, List.mem_range]
  constructor
  · rintro ⟨j, hj, h⟩
    split at h
    · rename_i hb
      obtain ⟨d, hd, he⟩ := List.mem_map.1 h
      cases he
      exact ⟨hj, hb, d, hd, rfl⟩
    · cases h
  · rintro ⟨hj, hb, d, hd, rfl⟩
    refine ⟨k, hj, ?_⟩
    rw [if_pos hb]
    exact List.mem_map.2 ⟨d, hd, rfl⟩
inductive Stay (l : List PNode) (rules : List PRule) : Nat → Prop
  | media {i : Nat} {r : PRule} (h : rules[i]? = some r) (hm : r.media ≠ []) : Stay l rules i
  | meet {i j : Nat} {r q : PRule} {p : Nat × B} (hi : rules[i]? = some r) (hj : rules[j]? = some q) (hs : Stay l rules j) (h1 : p ∈ touches l r) (h2 : p ∈ touches l q) : Stay l rules i
structure IsStays (l : List PNode) (rules : List PRule) (st : List Bool) : Prop where
  len : st.length = rules.length
  iff : ∀ i b, st[i]? = some b → (b = true ↔ Stay l rules i)
theorem IsStays.unique {l : List PNode} {rules : List PRule} {st su : List Bool} (h : IsStays l rules st) (g : IsStays l rules su) : st = su := by
  apply List.ext_getElem?
  intro i
  by_cases hi : i < rules.length
  · have h1 := List.getElem?_eq_getElem (show i < st.length by rw [h.len]; exact hi)
    have g1 := List.getElem?_eq_getElem (show i < su.length by rw [g.len]; exact hi)
    have h2 := h.iff _ _ h1
    have g2 := g.iff _ _ g1
    rw [h1, g1]
    congr 1
    rw [Bool.eq_iff_iff, h2, g2]
  · rw [List.getElem?_eq_none (by rw [h.len]; omega), List.getElem?_eq_none (by rw [g.len]; omega)]
structure PEdit where
  lo : Nat
  hi : Nat
  text : B
  deriving DecidableEq
def editsF (s : B) : Nat → List PEdit → B
  | a, [] => s.drop a
  | a, e :: es => sub s a e.lo ++ (e.text ++ editsF s e.hi es)
def EdOk (s : B) : Nat → List PEdit → Prop
  | a, [] => a ≤ s.length
  | a, e :: es => a ≤ e.lo ∧ e.lo ≤ e.hi ∧ e.hi ≤ s.length ∧ EdOk s e.hi es
def goneR : List PRule → List Bool → List PRule
  | r :: rs, b :: bs => if b then goneR rs bs else r :: goneR rs bs
  | _, _ => []
def goneEd (r : PRule) : PEdit := ⟨r.lo.toNat, r.hi.toNat, [32]⟩
def ownAt (n : PNode) : Int × Int := n.attrs.foldl (fun p a => if a.name = styleName then (a.lo, a.hi) else p) (n.nameEnd, n.nameEnd)
def styleHead : B := [32, 115, 116, 121, 108, 101, 61, 34]
def fOwn (n : PNode) (text : B) : Option PEdit :=
  if (pGet n.attrs styleName).2 = true ∧ (pGet n.attrs styleName).1 = text ∨ (pGet n.attrs styleName).2 = false ∧ text = [] then none
  else some ⟨(ownAt n).1.toNat, (ownAt n).2.toNat, if text = [] then [] else styleHead ++ text ++ [34]⟩
def styleText (l : List PNode) (k : Nat) (gone : List PRule) : B × Bool := match cDeclared l (k : Int) gone [] with
  | .bad _ => ([], true)
  | .ok look => (sPrint look, decide (look.length ≤ 20))
def ownsEd (l : List PNode) (gone : List PRule) : Nat → List PNode → Ans (List PEdit)
  | _, [] => .ok []
  | k, n :: ns =>
    if (styleText l k gone).2 = false ∨ (pGet n.attrs styleName).2 = false ∧ n.attrs.length = 8 ∧ (styleText l k gone).1 ≠ [] then .bad ⟨5, n.nameEnd.toNat⟩
    else (ownsEd l gone (k + 1) ns).then fun es => .ok ((fOwn n (styleText l k gone).1).toList ++ es)
def insEd (e : PEdit) : List PEdit → List PEdit
  | [] => [e]
  | x :: xs => if e.lo ≤ x.lo then e :: x :: xs else x :: insEd e xs
def sortEd : List PEdit → List PEdit
  | [] => []
  | e :: es => insEd e (sortEd es)
def fFold (s : B) (l : List PNode) (rules : List PRule) (st : List Bool) : Ans B :=
  (ownsEd l (goneR rules st) 0 l).then fun es =>
  if 6000 < (editsF s 0 (sortEd ((goneR rules st).map goneEd ++ es))).length then .bad ⟨4, 0⟩ else .ok (editsF s 0 (sortEd ((goneR rules st).map goneEd ++ es)))
inductive EdRise : List PEdit → Prop
  | nil : EdRise []
  | cons {x : PEdit} {xs : List PEdit} (h : ∀ y ∈ xs, x.lo < y.lo) (hs : EdRise xs) : EdRise (x :: xs)
theorem insEd_perm (e : PEdit) : ∀ xs, (insEd e xs).Perm (e :: xs)
  | [] => .refl _
  | x :: xs => by
    simp only [insEd]
    split
    · exact .refl _
    · exact ((insEd_perm e xs).cons x).trans (.swap e x xs)
theorem sortEd_perm : ∀ xs, (sortEd xs).Perm xs
  | [] => .refl _
  | x :: xs => (insEd_perm x _).trans ((sortEd_perm xs).cons x)
theorem EdRise.unique : ∀ {xs ys : List PEdit}, EdRise xs → EdRise ys → xs.Perm ys → xs = ys
  | [], ys, _, _, h => (List.nil_perm.1 h).symm
  | x :: xs, [], _, _, h => absurd h.length_eq (by simp)
  | x :: xs, y :: ys, .cons h1 h2, .cons g1 g2, h => by
    have e : x = y := by
      rcases List.mem_cons.1 (h.mem_iff.1 (List.mem_cons_self (a := x) (l := xs))) with e | e
      · exact e
      · rcases List.mem_cons.1 (h.mem_iff.2 (List.mem_cons_self (a := y) (l := ys))) with e' | e'
        · exact e'.symm
        · have := h1 y e'; have := g1 x e; omega
    subst e
    rw [EdRise.unique h2 g2 (List.Perm.cons_inv h)]
theorem rise_of_sorted : ∀ {xs : List PEdit}, xs.Pairwise (fun a b => a.lo ≤ b.lo) → (xs.map (·.lo)).Nodup → EdRise xs
  | [], _, _ => .nil
  | x :: xs, h, hn => by
    rw [List.pairwise_cons] at h
    rw [List.map_cons, List.nodup_cons] at hn
    refine .cons (fun y hy => ?_) (rise_of_sorted h.2 hn.2)
    have h1 := h.1 y hy
    have h2 : x.lo ≠ y.lo := fun e => hn.1 (by rw [e]; exact List.mem_map.2 ⟨y, hy, rfl⟩)
    omega
theorem insEd_sorted (e : PEdit) : ∀ {xs : List PEdit}, xs.Pairwise (fun a b => a.lo ≤ b.lo) → (insEd e xs).Pairwise (fun a b => a.lo ≤ b.lo)
  | [], _ => by simp [insEd]
  | x :: xs, h => by
    have h' := h
    rw [List.pairwise_cons] at h
    simp only [insEd]
    split
    · rename_i hle
      rw [List.pairwise_cons]
      refine ⟨fun y hy => ?_, h'⟩
      rcases List.mem_cons.1 hy with rfl | hy
      · exact hle
      · have := h.1 y hy; omega
    · rename_i hle
      rw [List.pairwise_cons]
      refine ⟨fun y hy => ?_, insEd_sorted e h.2⟩
      rcases List.mem_cons.1 ((insEd_perm e xs).mem_iff.1 hy) with rfl | hy
      · omega
      · exact h.1 y hy
theorem sortEd_sorted : ∀ xs : List PEdit, (sortEd xs).Pairwise (fun a b => a.lo ≤ b.lo)
  | [] => .nil
  | x :: xs => insEd_sorted x (sortEd_sorted xs)
theorem sortEd_eq {xs ys : List PEdit} (hr : EdRise ys) (hp : ys.Perm xs) : sortEd xs = ys := by
  refine EdRise.unique (rise_of_sorted (sortEd_sorted xs) ?_) hr ((sortEd_perm xs).trans hp.symm)
  have h1 : ((sortEd xs).map (·.lo)).Perm (ys.map (·.lo)) := ((sortEd_perm xs).trans hp.symm).map _
  rw [h1.nodup_iff]
  clear h1 hp
  induction hr with
  | nil => simp
  | cons h hs ih =>
    rw [List.map_cons, List.nodup_cons]
    refine ⟨fun hm => ?_, ih⟩
    obtain ⟨y, hy, he⟩ := List.mem_map.1 hm
    have := h y hy
    omega
theorem EdOk.rise {s : B} : ∀ {es : List PEdit} {a : Nat}, EdOk s a es → (∀ e ∈ es, e.lo < e.hi ∨ ∀ d ∈ es, d ≠ e → d.lo ≠ e.lo) → ∀ e ∈ es, a ≤ e.lo
  | [], _, _, _, e, he => by cases he
  | x :: xs, a, h, hx, e, he => by
    obtain ⟨h1, h2, h3, h4⟩ := h
    rcases List.mem_cons.1 he with rfl | he
    · exact h1
    · have := EdOk.rise h4 (fun e he => (hx e (by simp [he])).imp id fun h d hd => h d (by simp [hd])) e he
      omega
end Go.Proofs.YtplbdlgmjehckacGreatDoor
namespace Go.Proofs.YtplbdlgmjehckacGreatDoor
set_option linter.unusedVariables false
set_option linter.unusedSimpArgs false
def rulesOf (inner : B) : List PRule := match sParse inner with
  | .ok rs => rs
  | .bad _ => []
def hasStyle (al : List (B × B)) : Bool := al.any fun a => a.1 == styleName
def setStyle (al : List (B × B)) (t : B) : List (B × B) :=
  if hasStyle al = true then (if t = [] then al.filter (fun a => !(a.1 == styleName) || a.2.isEmpty) else al.map fun a => if a.1 = styleName then (a.1, t) else a)
  else if t = [] then al else (styleName, t) :: al
def nRulesP : PT → Nat
  | .nil => 0
  | .text _ n => nRulesP n
  | .note _ n => nRulesP n
  | .elem _ _ kids n => nRulesP kids + nRulesP n
  | .style _ inner n => (rulesOf inner).length + nRulesP n
def foldP (tx : Nat → B) (g : Nat → Bool) : Nat → Nat → PT → PT
  | _, _, .nil => .nil
  | c, i, .text x n => .text x (foldP tx g c i n)
  | c, i, .note x n => .note x (foldP tx g c i n)
  | c, i, .elem nm al kids n => .elem nm (setStyle al (tx c)) (foldP tx g (c + 1) i kids) (foldP tx g (c + 1 + sizeP kids) (i + nRulesP kids) n)
  | c, i, .style al inner n => .style (setStyle al (tx c)) (splice (fun _ => [32]) g inner i 0 (rulesOf inner)) (foldP tx g (c + 1) (i + (rulesOf inner).length) n)
def newStyle (t : B) : B := styleHead ++ t ++ [34]
def attrEdF (t : B) : Nat → List (B × B) → List PEdit
  | _, [] => []
  | q, a :: al => if a.1 = styleName then (if a.2 = t then [] else [⟨q, q + (attrText a).length, if t = [] then [] else newStyle t⟩]) else attrEdF t (q + (attrText a).length) al
def attrEd (t : B) (q : Nat) (al : List (B × B)) : List PEdit := if hasStyle al = true then attrEdF t q al else if t = [] then [] else [⟨q, q, newStyle t⟩]
def ruleEd (g : Nat → Bool) (d : Nat) : Nat → List PRule → List PEdit
  | _, [] => []
  | i, r :: rs => if g i then ⟨r.lo.toNat + d, r.hi.toNat + d, [32]⟩ :: ruleEd g d (i + 1) rs else ruleEd g d (i + 1) rs
def treeEd (tx : Nat → B) (g : Nat → Bool) : Nat → Nat → Nat → PT → List PEdit
  | _, _, _, .nil => []
  | c, i, p, .text _ n => treeEd tx g c i (p + 1) n
  | c, i, p, .note x n => treeEd tx g c i (p + (4 + x.length + 3)) n
  | c, i, p, .elem nm al kids n => attrEd (tx c) (p + 1 + nm.length) al ++ (treeEd tx g (c + 1) i (p + (openText nm al).length) kids ++
      treeEd tx g (c + 1 + sizeP kids) (i + nRulesP kids) (p + (openText nm al).length + (textP kids).length + (closeText nm).length) n)
  | c, i, p, .style al inner n => attrEd (tx c) (p + 1 + styleName.length) al ++ (ruleEd g (p + (openText styleName al).length) i (rulesOf inner) ++
      treeEd tx g (c + 1) (i + (rulesOf inner).length) (p + (openText styleName al).length + inner.length + (closeText styleName).length) n)
theorem EdOk.le {s : B} : ∀ {es : List PEdit} {a : Nat}, EdOk s a es → a ≤ s.length
  | [], _, h => h
  | _ :: _, _, ⟨h1, h2, h3, _⟩ => by omega
theorem EdOk.early {s : B} {a b : Nat} {es : List PEdit} (h : EdOk s b es) (hab : a ≤ b) : EdOk s a es := by
  cases es with
  | nil => exact Nat.le_trans hab h
  | cons e es => obtain ⟨h1, h2, h3, h4⟩ := h; exact ⟨by omega, h2, h3, h4⟩
theorem edits_from {s : B} {a b : Nat} {es : List PEdit} (h : EdOk s b es) (hab : a ≤ b) : editsF s a es = sub s a b ++ editsF s b es := by
  cases es with
  | nil => simp only [editsF]; exact (sub_to hab).symm
  | cons e es =>
    obtain ⟨h1, h2, h3, h4⟩ := h
    simp only [editsF]
    rw [← sub_append s hab h1, List.append_assoc]
structure Makes (s : B) (a b : Nat) (es : List PEdit) (t : B) : Prop where
  ok : ∀ more, EdOk s b more → EdOk s a (es ++ more)
  text : ∀ more, EdOk s b more → editsF s a (es ++ more) = t ++ editsF s b more
theorem Makes.cat {s : B} {a b c : Nat} {es fs : List PEdit} {t u : B} (h : Makes s a b es t) (g : Makes s b c fs u) : Makes s a c (es ++ fs) (t ++ u) where
  ok more hm := by rw [List.append_assoc]; exact h.ok _ (g.ok _ hm)
  text more hm := by rw [List.append_assoc, h.text _ (g.ok _ hm), g.text _ hm, List.append_assoc]
theorem Makes.none {s : B} {a b : Nat} (hab : a ≤ b) : Makes s a b [] (sub s a b) where
  ok more hm := by rw [List.nil_append]; exact hm.early hab
  text more hm := by rw [List.nil_append]; exact edits_from hm hab
theorem Makes.one {s : B} {a b : Nat} (hab : a ≤ b) (hb : b ≤ s.length) (t : B) : Makes s a b [⟨a, b, t⟩] t where
  ok more hm := ⟨Nat.le_refl _, hab, hb, hm⟩
  text more hm := by simp [editsF, sub_nil]
theorem Makes.plain {s p w q : B} (hs : s = p ++ (w ++ q)) : Makes s p.length (p.length + w.length) [] w := by
  have := Makes.none (s := s) (a := p.length) (b := p.length + w.length) (by omega)
  rw [show sub s p.length (p.length + w.length) = w from by rw [hs, sub_mid]] at this
  exact this
theorem styleText_eq (t : B) : attrText (styleName, t) = newStyle t := by simp [attrText, newStyle, styleHead, styleName]
theorem attrsText_app (a b : List (B × B)) : attrsText (a ++ b) = attrsText a ++ attrsText b := by
  induction a with
  | nil => rfl
  | cons x a ih => simp [attrsText, ih]
theorem attrs_same {s : B} : ∀ (al : List (B × B)) (p q : B), s = p ++ (attrsText al ++ q) → Makes s p.length (p.length + (attrsText al).length) [] (attrsText al)
  | al, p, q, hs => Makes.plain hs
theorem noStyle_filter {al : List (B × B)} (h : hasStyle al = false) : al.filter (fun a => !(a.1 == styleName) || a.2.isEmpty) = al := by
  unfold hasStyle at h
  rw [List.filter_eq_self]
  intro a ha
  have := List.any_eq_false.1 h a ha
  simp only [beq_iff_eq] at this
  simp [this]
theorem noStyle_map {al : List (B × B)} (t : B) (h : hasStyle al = false) : al.map (fun a => if a.1 = styleName then (a.1, t) else a) = al := by
  unfold hasStyle at h
  conv => rhs; rw [← List.map_id al]
  apply List.map_congr_left
  intro a ha
  have := List.any_eq_false.1 h a ha
  rw [if_neg (by simpa using this)]; rfl
theorem hasStyle_cons (a : B × B) (al : List (B × B)) : hasStyle (a :: al) = (a.1 == styleName || hasStyle al) := rfl
theorem noStyle_of {al : List (B × B)} (h : styleName ∉ al.map (·.1)) : hasStyle al = false := by
  unfold hasStyle
  rw [List.any_eq_false]
  intro a ha
  simp only [beq_iff_eq]
  rintro e
  exact h (by rw [← e]; exact List.mem_map.2 ⟨a, ha, rfl⟩)
theorem attrEdF_makes {s : B} (t : B) : ∀ (al : List (B × B)) (p q : B), s = p ++ (attrsText al ++ q) → (al.map (·.1)).Nodup → hasStyle al = true →
    Makes s p.length (p.length + (attrsText al).length) (attrEdF t p.length al) (attrsText (setStyle al t))
  | [], p, q, _, _, h => by cases h
  | a :: al, p, q, hs, hn, h => by
    rw [List.map_cons, List.nodup_cons] at hn
    simp only [attrsText, List.append_assoc] at hs
    have hlen : p.length + (attrsText (a :: al)).length = p.length + (attrText a).length + (attrsText al).length := by simp [attrsText]; omega
    have hs2 : s = (p ++ attrText a) ++ (attrsText al ++ q) := by rw [hs]; simp
    have hpl : (p ++ attrText a).length = p.length + (attrText a).length := by simp
    rw [hlen]
    by_cases ha : a.1 = styleName
    · have hno : hasStyle al = false := noStyle_of (by rw [← ha]; exact hn.1)
      have htail : Makes s (p.length + (attrText a).length) (p.length + (attrText a).length + (attrsText al).length) [] (attrsText al) := by
        have := Makes.plain hs2
        rwa [hpl] at this
      simp only [attrEdF]
      rw [if_pos ha]
      split
      · rename_i hv
        have hset : setStyle (a :: al) t = a :: al := by
          unfold setStyle
          rw [if_pos h]
          split
          · rename_i ht
            simp only [List.filter_cons, hv, ht, List.isEmpty_nil, Bool.or_true, if_true, noStyle_filter hno]
          · simp only [List.map_cons, ha, if_true, noStyle_map t hno]
            rw [← hv, ← ha]
        have h1 : Makes s p.length (p.length + (attrText a).length) [] (attrText a) := Makes.plain hs
        have := h1.cat htail
        rw [hset]
        simpa [attrsText] using this
      · rename_i hv
        have hset : setStyle (a :: al) t = if t = [] then al else (styleName, t) :: al := by
          unfold setStyle
          rw [if_pos h]
          split
          · rename_i ht
            have : a.2.isEmpty = false := by rw [List.isEmpty_eq_false_iff]; rw [ht] at hv; exact hv
            simp only [List.filter_cons, ha, this, beq_self_eq_true, Bool.not_true, Bool.or_self, Bool.false_eq_true, if_false]
            exact noStyle_filter hno
          · simp only [List.map_cons, ha, if_true]
            rw [noStyle_map t hno]
        have hb : p.length + (attrText a).length ≤ s.length := by rw [hs]; simp
        have := (Makes.one (s := s) (a := p.length) (b := p.length + (attrText a).length) (by omega) hb (if t = [] then [] else newStyle t)).cat htail
        rw [List.append_nil] at this
        rw [hset]
        split
        · rename_i ht
          rw [if_pos ht] at this
          exact this
        · rename_i ht
          rw [if_neg ht] at this
          simp only [attrsText, styleText_eq]
          exact this
    · have h' : hasStyle al = true := by
        rw [hasStyle_cons] at h
        simpa [ha] using h
      have hset : setStyle (a :: al) t = a :: setStyle al t := by
        unfold setStyle
        rw [if_pos h, if_pos h']
        split
        · simp [List.filter_cons, ha]
        · simp [ha]
      have h1 : Makes s p.length (p.length + (attrText a).length) [] (attrText a) := Makes.plain hs
      have h2 := attrEdF_makes t al (p ++ attrText a) q hs2 hn.2 h'
      rw [hpl] at h2
      have := h1.cat h2
      simp only [attrEdF]
      rw [if_neg ha, hset]
      simp only [attrsText]
      exact this
theorem attr_makes {s : B} (t : B) {al : List (B × B)} {p q : B} (hs : s = p ++ (attrsText al ++ q)) (hn : (al.map (·.1)).Nodup) : Makes s p.length (p.length + (attrsText al).length) (attrEd t p.length al) (attrsText (setStyle al t)) := by
  unfold attrEd
  split
  · rename_i h
    exact attrEdF_makes t al p q hs hn h
  · rename_i h
    have h1 : Makes s p.length (p.length + (attrsText al).length) [] (attrsText al) := Makes.plain hs
    unfold setStyle
    rw [if_neg h]
    split
    · exact h1
    · have hb : p.length ≤ s.length := by rw [hs]; simp
      have := (Makes.one (s := s) (a := p.length) (b := p.length) (by omega) hb (newStyle t)).cat h1
      simpa [attrsText, styleText_eq] using this
theorem open_makes {s : B} (t : B) {nm : B} {al : List (B × B)} {p q : B} (hs : s = p ++ (openText nm al ++ q)) (hn : (al.map (·.1)).Nodup) :
    Makes s p.length (p.length + (openText nm al).length) (attrEd t (p.length + 1 + nm.length) al) (openText nm (setStyle al t)) := by
  have e1 : s = p ++ (([60] ++ nm) ++ (attrsText al ++ ([62] ++ q))) := by rw [hs]; simp [openText]
  have e2 : s = (p ++ ([60] ++ nm)) ++ (attrsText al ++ ([62] ++ q)) := by rw [hs]; simp [openText]
  have e3 : s = (p ++ ([60] ++ nm) ++ attrsText al) ++ ([62] ++ q) := by rw [hs]; simp [openText]
  have m1 : Makes s p.length (p.length + ([60] ++ nm).length) [] ([60] ++ nm) := Makes.plain e1
  have m2 := attr_makes t e2 hn
  have m3 := Makes.plain e3
  have l2 : (p ++ ([60] ++ nm)).length = p.length + ([60] ++ nm).length := by simp
  have l3 : (p ++ ([60] ++ nm) ++ attrsText al).length = p.length + ([60] ++ nm).length + (attrsText al).length := by simp; omega
  rw [l3] at m3
  rw [l2] at m2
  have m := (m1.cat m2).cat m3
  rw [List.nil_append, List.append_nil] at m
  have ea : p.length + ([60] ++ nm).length = p.length + 1 + nm.length := by simp; omega
  have eb : p.length + ([60] ++ nm).length + (attrsText al).length + ([62] : B).length = p.length + (openText nm al).length := by simp [openText]; omega
  rw [eb] at m
  rw [ea] at m
  have et : openText nm (setStyle al t) = ([60] ++ nm ++ attrsText (setStyle al t)) ++ [62] := by simp [openText]
  rw [et]
  exact m
theorem sub_in {s p w q : B} (hs : s = p ++ (w ++ q)) {a b : Nat} (hb : b ≤ w.length) : sub s (p.length + a) (p.length + b) = sub w a b := by
  unfold sub
  rw [hs, show p.length + b - (p.length + a) = b - a from by omega, ← List.drop_drop, List.drop_left]
  by_cases h : a ≤ w.length
  · rw [List.drop_append_of_le_length h, List.take_append_of_le_length (by simp; omega)]
  · rw [show b - a = 0 from by omega]; simp
theorem sub_end (w : B) (a : Nat) : sub w a w.length = w.drop a := by unfold sub; rw [List.take_of_length_le (by simp)]
theorem rule_makes {s : B} (g : Nat → Bool) {p w q : B} (hs : s = p ++ (w ++ q)) : ∀ (rs : List PRule) (i a : Nat), a ≤ w.length → Placed w a rs →
    Makes s (p.length + a) (p.length + w.length) (ruleEd g p.length i rs) (splice (fun _ => [32]) g w i a rs)
  | [], i, a, ha, _ => by
    have := Makes.none (s := s) (a := p.length + a) (b := p.length + w.length) (by omega)
    rw [sub_in hs (Nat.le_refl _), sub_end] at this
    exact this
  | r :: rs, i, a, ha, hp => by
    obtain ⟨lo, hi, h1, h2, h3, h4, h5, h6, h7⟩ := hp
    have hsl : s.length = p.length + (w.length + q.length) := by rw [hs]; simp
    simp only [ruleEd, splice]
    split
    · have m1 := Makes.none (s := s) (a := p.length + a) (b := p.length + lo) (by omega)
      rw [sub_in hs (by omega)] at m1
      have m2 := Makes.one (s := s) (a := p.length + lo) (b := p.length + hi) (by omega) (by omega) [32]
      have m3 := rule_makes g hs rs (i + 1) hi h5 h7
      have m := (m1.cat m2).cat m3
      rw [h1, h2, Int.toNat_natCast, Int.toNat_natCast, Nat.add_comm lo, Nat.add_comm hi]
      exact m
    · exact rule_makes g hs rs (i + 1) a ha (h7.early (by omega))
def okP : PT → Prop
  | .nil => True
  | .text _ n => okP n
  | .note _ n => okP n
  | .elem _ _ kids n => okP kids ∧ okP n
  | .style _ inner n => (∃ rs, sParse inner = .ok rs) ∧ okP n
theorem rulesOf_ok {inner : B} {rs : List PRule} (h : sParse inner = .ok rs) : rulesOf inner = rs := by unfold rulesOf; rw [h]
theorem tree_makes {s : B} (tx : Nat → B) (g : Nat → Bool) : ∀ (T : PT) (d c i : Nat) (p q : B), s = p ++ (textP T ++ q) → wfP d T → okP T →
    Makes s p.length (p.length + (textP T).length) (treeEd tx g c i p.length T) (textP (foldP tx g c i T))
  | .nil, d, c, i, p, q, hs, _, _ => by
    have := Makes.plain (w := []) (q := q) hs
    simpa [treeEd, foldP, textP] using this
  | .text x n, d, c, i, p, q, hs, hw, ho => by
    have e1 : s = p ++ ([x] ++ (textP n ++ q)) := by rw [hs]; simp [textP]
    have e2 : s = (p ++ [x]) ++ (textP n ++ q) := by rw [hs]; simp [textP]
    have m1 := Makes.plain e1
    have m2 := tree_makes tx g n d c i (p ++ [x]) q e2 hw.2.2 ho
    have l1 : (p ++ [x]).length = p.length + 1 := by simp
    rw [l1] at m2
    have m := m1.cat m2
    simp only [treeEd, foldP, textP, List.length_cons]
    rw [show p.length + ((textP n).length + 1) = p.length + 1 + (textP n).length from by omega]
    exact m
  | .note x n, d, c, i, p, q, hs, hw, ho => by
    have e1 : s = p ++ ((noteBegin ++ (x ++ noteEnd)) ++ (textP n ++ q)) := by rw [hs]; simp [textP]
    have e2 : s = (p ++ (noteBegin ++ (x ++ noteEnd))) ++ (textP n ++ q) := by rw [hs]; simp [textP]
    have m1 := Makes.plain e1
    have m2 := tree_makes tx g n d c i (p ++ (noteBegin ++ (x ++ noteEnd))) q e2 hw.2 ho
    have l0 : (noteBegin ++ (x ++ noteEnd)).length = 4 + x.length + 3 := by simp [noteBegin, noteEnd]; omega
    have l1 : (p ++ (noteBegin ++ (x ++ noteEnd))).length = p.length + (4 + x.length + 3) := by rw [List.length_append, l0]
    rw [l1] at m2
    rw [l0] at m1
    have m := m1.cat m2
    have et : textP (foldP tx g c i (.note x n)) = (noteBegin ++ (x ++ noteEnd)) ++ textP (foldP tx g c i n) := by simp [foldP, textP]
    have el : p.length + (textP (.note x n)).length = p.length + (4 + x.length + 3) + (textP n).length := by
      simp [textP, noteBegin, noteEnd]; omega
    rw [et, el]
    exact m
  | .elem nm al kids n, d, c, i, p, q, hs, hw, ho => by
    obtain ⟨h1, h2, h3, h4, h5, h6⟩ := hw
    have e1 : s = p ++ (openText nm al ++ (textP kids ++ (closeText nm ++ (textP n ++ q)))) := by rw [hs]; simp [textP]
    have e2 : s = (p ++ openText nm al) ++ (textP kids ++ (closeText nm ++ (textP n ++ q))) := by rw [hs]; simp [textP]
    have e3 : s = (p ++ openText nm al ++ textP kids) ++ (closeText nm ++ (textP n ++ q)) := by rw [hs]; simp [textP]
    have e4 : s = (p ++ openText nm al ++ textP kids ++ closeText nm) ++ (textP n ++ q) := by rw [hs]; simp [textP]
    have l2 : (p ++ openText nm al).length = p.length + (openText nm al).length := by simp
    have l3 : (p ++ openText nm al ++ textP kids).length = p.length + (openText nm al).length + (textP kids).length := by simp; omega
    have l4 : (p ++ openText nm al ++ textP kids ++ closeText nm).length = p.length + (openText nm al).length + (textP kids).length + (closeText nm).length := by simp; omega
    have m1 := open_makes (tx c) e1 h4.apart
    have m2 := tree_makes tx g kids _ (c + 1) i _ _ e2 h5 ho.1
    have m3 := Makes.plain e3
    have m4 := tree_makes tx g n _ (c + 1 + sizeP kids) (i + nRulesP kids) _ _ e4 h6 ho.2
    rw [l2] at m2
    rw [l3] at m3
    rw [l4] at m4
    have m := m1.cat (m2.cat (m3.cat m4))
    have el : p.length + (textP (.elem nm al kids n)).length = p.length + (openText nm al).length + (textP kids).length + (closeText nm).length + (textP n).length := by
      simp [textP]; omega
    rw [el]
    simp only [treeEd, foldP, textP]
    exact m
  | .style al inner n, d, c, i, p, q, hs, hw, ho => by
    obtain ⟨h1, h4, h5, h6⟩ := hw
    obtain ⟨⟨rs, hr⟩, ho⟩ := ho
    have e1 : s = p ++ (openText styleName al ++ (inner ++ (closeText styleName ++ (textP n ++ q)))) := by rw [hs]; simp [textP]
    have e2 : s = (p ++ openText styleName al) ++ (inner ++ (closeText styleName ++ (textP n ++ q))) := by rw [hs]; simp [textP]
    have e3 : s = (p ++ openText styleName al ++ inner) ++ (closeText styleName ++ (textP n ++ q)) := by rw [hs]; simp [textP]
    have e4 : s = (p ++ openText styleName al ++ inner ++ closeText styleName) ++ (textP n ++ q) := by rw [hs]; simp [textP]
    have l2 : (p ++ openText styleName al).length = p.length + (openText styleName al).length := by simp
    have l3 : (p ++ openText styleName al ++ inner).length = p.length + (openText styleName al).length + inner.length := by simp; omega
    have l4 : (p ++ openText styleName al ++ inner ++ closeText styleName).length = p.length + (openText styleName al).length + inner.length + (closeText styleName).length := by simp; omega
    have m1 := open_makes (tx c) e1 h4.apart
    have m2 := rule_makes g e2 rs i 0 (by omega) (parse_placed hr)
    have m3 := Makes.plain e3
    have m4 := tree_makes tx g n _ (c + 1) (i + rs.length) _ _ e4 h6 ho
    rw [l2, Nat.add_zero] at m2
    rw [l3] at m3
    rw [l4] at m4
    have m := m1.cat (m2.cat (m3.cat m4))
    have el : p.length + (textP (.style al inner n)).length = p.length + (openText styleName al).length + inner.length + (closeText styleName).length + (textP n).length := by
      simp [textP]; omega
    rw [el]
    simp only [treeEd, foldP, textP, rulesOf_ok hr]
    exact m
theorem page_makes (tx : Nat → B) (g : Nat → Bool) {T : PT} (hw : wfP 1 T) (ho : okP T) : EdOk (textP T) 0 (treeEd tx g 0 0 0 T) ∧ editsF (textP T) 0 (treeEd tx g 0 0 0 T) = textP (foldP tx g 0 0 T) := by
  have m := tree_makes (s := textP T) tx g T 1 0 0 [] [] (by simp) hw ho
  have h1 := m.ok [] (by simp [EdOk])
  have h2 := m.text [] (by simp [EdOk])
  simp only [List.append_nil, List.length_nil, Nat.zero_add, editsF] at h1 h2
  rw [List.drop_of_length_le (Nat.le_refl _), List.append_nil] at h2
  exact ⟨h1, h2⟩
end Go.Proofs.YtplbdlgmjehckacGreatDoor
namespace Go.Proofs.YtplbdlgmjehckacGreatDoor
set_option linter.unusedVariables false
set_option linter.unusedSimpArgs false
def treeRules : Nat → PT → List PRule
  | _, .nil => []
  | p, .text _ n => treeRules (p + 1) n
  | p, .note x n => treeRules (p + (4 + x.length + 3)) n
  | p, .elem nm al kids n => treeRules (p + (openText nm al).length) kids ++ treeRules (p + (openText nm al).length + (textP kids).length + (closeText nm).length) n
  | p, .style al inner n => (rulesOf inner).map (PRule.shift (p + (openText styleName al).length)) ++ treeRules (p + (openText styleName al).length + inner.length + (closeText styleName).length) n
theorem treeRules_len : ∀ (T : PT) (p : Nat), (treeRules p T).length = nRulesP T
  | .nil, _ => rfl
  | .text _ n, p => by simp only [treeRules, nRulesP, treeRules_len n]
  | .note _ n, p => by simp only [treeRules, nRulesP, treeRules_len n]
  | .elem _ _ kids n, p => by simp only [treeRules, nRulesP, List.length_append, treeRules_len n, treeRules_len kids]
  | .style _ _ n, p => by simp only [treeRules, nRulesP, List.length_append, List.length_map, treeRules_len n]
theorem styleRules_app (s : B) : ∀ (xs ys : List PNode), styleRules s (xs ++ ys) = (styleRules s xs).then fun a => (styleRules s ys).then fun b => .ok (a ++ b)
  | [], ys => by
    simp only [List.nil_append, styleRules, Ans.ok_then]
    cases styleRules s ys <;> rfl
  | x :: xs, ys => by
    simp only [List.cons_append, styleRules]
    rw [styleRules_app s xs ys]
    split
    · cases sParse (sub s x.inF.toNat x.inT.toNat) with
      | bad f => rfl
      | ok rs =>
        simp only
        cases styleRules s xs with
        | bad f => rfl
        | ok a =>
          simp only [Ans.ok_then]
          cases styleRules s ys with
          | bad f => rfl
          | ok b => simp
    · rfl
theorem style_rules {s : B} : ∀ (T : PT) (d c : Nat) (par : Int) (p q : B), s = p ++ (textP T ++ q) → wfP d T →
    (∀ rs, styleRules s (nodesP par c p.length T) = .ok rs → okP T) ∧ (okP T → styleRules s (nodesP par c p.length T) = .ok (treeRules p.length T))
  | .nil, d, c, par, p, q, hs, hw => ⟨fun _ _ => trivial, fun _ => rfl⟩
  | .text x n, d, c, par, p, q, hs, hw => by
    have e2 : s = (p ++ [x]) ++ (textP n ++ q) := by rw [hs]; simp [textP]
    have := style_rules n d c par (p ++ [x]) q e2 hw.2.2
    simpa [nodesP, treeRules, okP] using this
  | .note x n, d, c, par, p, q, hs, hw => by
    have e2 : s = (p ++ (noteBegin ++ (x ++ noteEnd))) ++ (textP n ++ q) := by rw [hs]; simp [textP]
    have := style_rules n d c par (p ++ (noteBegin ++ (x ++ noteEnd))) q e2 hw.2
    have l1 : (p ++ (noteBegin ++ (x ++ noteEnd))).length = p.length + (4 + x.length + 3) := by simp [noteBegin, noteEnd]; omega
    rw [l1] at this
    simpa only [nodesP, treeRules, okP] using this
  | .elem nm al kids n, d, c, par, p, q, hs, hw => by
    obtain ⟨h1, h2, h3, h4, h5, h6⟩ := hw
    have e2 : s = (p ++ openText nm al) ++ (textP kids ++ (closeText nm ++ (textP n ++ q))) := by rw [hs]; simp [textP]
    have e4 : s = (p ++ openText nm al ++ textP kids ++ closeText nm) ++ (textP n ++ q) := by rw [hs]; simp [textP]
    have l2 : (p ++ openText nm al).length = p.length + (openText nm al).length := by simp
    have l4 : (p ++ openText nm al ++ textP kids ++ closeText nm).length = p.length + (openText nm al).length + (textP kids).length + (closeText nm).length := by simp; omega
    have k1 := style_rules kids _ (c + 1) (c : Int) _ _ e2 h5
    have k2 := style_rules n _ (c + 1 + sizeP kids) par _ _ e4 h6
    rw [l2] at k1
    rw [l4] at k2
    simp only [nodesP, treeRules, okP, styleRules]
    rw [if_neg h3, styleRules_app]
    refine ⟨fun rs h => ?_, fun ho => ?_⟩
    · obtain ⟨a, ha, h⟩ := then_ok h
      obtain ⟨b, hb, h⟩ := then_ok h
      exact ⟨k1.1 _ ha, k2.1 _ hb⟩
    · rw [k1.2 ho.1, k2.2 ho.2]; rfl
  | .style al inner n, d, c, par, p, q, hs, hw => by
    obtain ⟨h1, h4, h5, h6⟩ := hw
    have e2 : s = (p ++ openText styleName al) ++ (inner ++ (closeText styleName ++ (textP n ++ q))) := by rw [hs]; simp [textP]
    have e4 : s = (p ++ openText styleName al ++ inner ++ closeText styleName) ++ (textP n ++ q) := by rw [hs]; simp [textP]
    have l2 : (p ++ openText styleName al).length = p.length + (openText styleName al).length := by simp
    have l4 : (p ++ openText styleName al ++ inner ++ closeText styleName).length = p.length + (openText styleName al).length + inner.length + (closeText styleName).length := by simp; omega
    have k2 := style_rules n _ (c + 1) par _ _ e4 h6
    rw [l4] at k2
    have hsub : sub s (p.length + (openText styleName al).length) (p.length + (openText styleName al).length + inner.length) = inner := by
      have := sub_mid (p ++ openText styleName al) inner (closeText styleName ++ (textP n ++ q))
      rw [← e2, l2] at this
      exact this
    simp only [nodesP, treeRules, okP, styleRules]
    rw [if_pos trivial, Int.toNat_natCast, Int.toNat_natCast, hsub]
    refine ⟨fun rs h => ?_, fun ho => ?_⟩
    · cases hp : sParse inner with
      | bad f => rw [hp] at h; cases h
      | ok rs1 =>
        rw [hp] at h
        obtain ⟨a, ha, h⟩ := then_ok h
        exact ⟨⟨_, rfl⟩, k2.1 _ ha⟩
    · obtain ⟨⟨rs, hr⟩, ho⟩ := ho
      rw [hr, k2.2 ho, rulesOf_ok hr]; rfl
def goneT (g : Nat → Bool) : Nat → Nat → PT → List PEdit
  | _, _, .nil => []
  | i, p, .text _ n => goneT g i (p + 1) n
  | i, p, .note x n => goneT g i (p + (4 + x.length + 3)) n
  | i, p, .elem nm al kids n => goneT g i (p + (openText nm al).length) kids ++ goneT g (i + nRulesP kids) (p + (openText nm al).length + (textP kids).length + (closeText nm).length) n
  | i, p, .style al inner n => ruleEd g (p + (openText styleName al).length) i (rulesOf inner) ++ goneT g (i + (rulesOf inner).length) (p + (openText styleName al).length + inner.length + (closeText styleName).length) n
def ownT (tx : Nat → B) : Nat → Nat → PT → List PEdit
  | _, _, .nil => []
  | c, p, .text _ n => ownT tx c (p + 1) n
  | c, p, .note x n => ownT tx c (p + (4 + x.length + 3)) n
  | c, p, .elem nm al kids n => attrEd (tx c) (p + 1 + nm.length) al ++ (ownT tx (c + 1) (p + (openText nm al).length) kids ++ ownT tx (c + 1 + sizeP kids) (p + (openText nm al).length + (textP kids).length + (closeText nm).length) n)
  | c, p, .style al inner n => attrEd (tx c) (p + 1 + styleName.length) al ++ ownT tx (c + 1) (p + (openText styleName al).length + inner.length + (closeText styleName).length) n
theorem tree_perm (tx : Nat → B) (g : Nat → Bool) : ∀ (T : PT) (c i p : Nat), (treeEd tx g c i p T).Perm (goneT g i p T ++ ownT tx c p T)
  | .nil, _, _, _ => .refl _
  | .text _ n, c, i, p => tree_perm tx g n c i _
  | .note _ n, c, i, p => tree_perm tx g n c i _
  | .elem nm al kids n, c, i, p => by
    have h1 := tree_perm tx g kids (c + 1) i (p + (openText nm al).length)
    have h2 := tree_perm tx g n (c + 1 + sizeP kids) (i + nRulesP kids) (p + (openText nm al).length + (textP kids).length + (closeText nm).length)
    simp only [treeEd, goneT, ownT]
    rw [List.perm_iff_count]
    intro a
    have := h1.count_eq a
    have := h2.count_eq a
    simp only [List.count_append] at *
    omega
  | .style al inner n, c, i, p => by
    have h2 := tree_perm tx g n (c + 1) (i + (rulesOf inner).length) (p + (openText styleName al).length + inner.length + (closeText styleName).length)
    simp only [treeEd, goneT, ownT]
    rw [List.perm_iff_count]
    intro a
    have := h2.count_eq a
    simp only [List.count_append] at *
    omega
theorem gone_one (g : Nat → Bool) (d : Nat) {w : B} : ∀ (rs : List PRule) (i a : Nat), Placed w a rs → (keepP (fun i => !g i) i (rs.map (PRule.shift d))).map goneEd = ruleEd g d i rs
  | [], _, _, _ => rfl
  | r :: rs, i, a, ⟨lo, hi, h1, h2, h3, h4, h5, h6, h7⟩ => by
    simp only [List.map_cons, keepP, ruleEd]
    have ih := gone_one g d rs (i + 1) hi h7
    cases g i with
    | true =>
      simp only [Bool.not_true, Bool.false_eq_true, if_false, if_true, List.map_cons, ih]
      congr 1
      simp only [goneEd, PRule.shift, h1, h2]
      congr 1
    | false => simpa using ih
theorem keepP_len {α : Type} (p : Nat → Bool) (xs : List α) (i : Nat) : (keepP p i xs).length ≤ xs.length := by
  induction xs generalizing i with
  | nil => exact Nat.le_refl _
  | cons x xs ih =>
    simp only [keepP]
    split
    · have := ih (i + 1); simp; omega
    · have := ih (i + 1); simp; omega
theorem gone_tree (g : Nat → Bool) : ∀ (T : PT) (i p : Nat), okP T → (keepP (fun i => !g i) i (treeRules p T)).map goneEd = goneT g i p T
  | .nil, _, _, _ => rfl
  | .text _ n, i, p, ho => gone_tree g n i _ ho
  | .note _ n, i, p, ho => gone_tree g n i _ ho
  | .elem nm al kids n, i, p, ho => by
    simp only [treeRules, goneT]
    rw [keepP_app, List.map_append, gone_tree g kids i _ ho.1, treeRules_len, gone_tree g n _ _ ho.2]
  | .style al inner n, i, p, ⟨⟨rs, hr⟩, ho⟩ => by
    simp only [treeRules, goneT]
    rw [keepP_app, List.map_append, rulesOf_ok hr, gone_one g _ rs i 0 (parse_placed hr), List.length_map, gone_tree g n _ _ ho]
def goes (st : List Bool) (i : Nat) : Bool := st[i]? == some false
theorem gone_from : ∀ (rules : List PRule) (pre st : List Bool), st.length = rules.length → goneR rules st = keepP (fun i => !goes (pre ++ st) i) pre.length rules
  | [], _, _, _ => by cases ‹List Bool› <;> rfl
  | r :: rs, pre, [], h => by simp at h
  | r :: rs, pre, b :: bs, h => by
    have ih := gone_from rs (pre ++ [b]) bs (by simpa using h)
    rw [List.append_assoc, List.singleton_append, List.length_append] at ih
    have hg : goes (pre ++ b :: bs) pre.length = !b := by
      unfold goes
      rw [List.getElem?_append_right (Nat.le_refl _), Nat.sub_self]
      cases b <;> rfl
    simp only [goneR, keepP, hg, Bool.not_not]
    cases b with
    | true => simpa using ih
    | false => simpa using ih
theorem gone_keep {rules : List PRule} {st : List Bool} (h : st.length = rules.length) : goneR rules st = keepP (fun i => !goes st i) 0 rules := gone_from rules [] st h
def ownL (tx : Nat → B) : Nat → List PNode → List PEdit
  | _, [] => []
  | k, n :: ns => (fOwn n (tx k)).toList ++ ownL tx (k + 1) ns
theorem ownL_app (tx : Nat → B) : ∀ (xs ys : List PNode) (k : Nat), ownL tx k (xs ++ ys) = ownL tx k xs ++ ownL tx (k + xs.length) ys
  | [], ys, k => rfl
  | x :: xs, ys, k => by
    simp only [List.cons_append, ownL, ownL_app tx xs ys, List.append_assoc, List.length_cons]
    rw [show k + 1 + xs.length = k + (xs.length + 1) from by omega]
def ownStep (p : Int × Int) (a : PAttr) : Int × Int := if a.name = styleName then (a.lo, a.hi) else p
theorem own_no : ∀ (al : List (B × B)) (q : Nat), hasStyle al = false → pGet (attrsAt q al) styleName = ([], false) ∧ ∀ p, (attrsAt q al).foldl ownStep p = p
  | [], q, _ => ⟨rfl, fun _ => rfl⟩
  | a :: al, q, h => by
    rw [hasStyle_cons, Bool.or_eq_false_iff] at h
    have hne : ¬ a.1 = styleName := by simpa using h.1
    have ih := own_no al (q + (attrText a).length) h.2
    refine ⟨?_, fun p => ?_⟩
    · unfold pGet at ih ⊢
      simp only [attrsAt, List.find?_cons, h.1]
      exact ih.1
    · simp only [attrsAt, List.foldl_cons]
      rw [show ownStep p ⟨a.1, a.2, (q : Int), ((q + (attrText a).length : Nat) : Int)⟩ = p from if_neg hne]
      exact ih.2 p
theorem own_yes (t : B) : ∀ (al : List (B × B)) (q : Nat), hasStyle al = true → (al.map (·.1)).Nodup → ∃ (v : B) (lo hi : Nat), pGet (attrsAt q al) styleName = (v, true) ∧ (∀ p, (attrsAt q al).foldl ownStep p = ((lo : Int), (hi : Int))) ∧
    attrEdF t q al = (if v = t then [] else [⟨lo, hi, if t = [] then [] else newStyle t⟩]) ∧ (styleName, v) ∈ al
  | [], q, h, _ => by cases h
  | a :: al, q, h, hn => by
    rw [List.map_cons, List.nodup_cons] at hn
    by_cases ha : a.1 = styleName
    · have hno : hasStyle al = false := noStyle_of (by rw [← ha]; exact hn.1)
      have := (own_no al (q + (attrText a).length) hno).2
      refine ⟨a.2, q, q + (attrText a).length, ?_, fun p => ?_, ?_, by rw [← ha]; simp⟩
      · unfold pGet
        simp [attrsAt, List.find?_cons, ha]
      · simp only [attrsAt, List.foldl_cons]
        rw [this, show ownStep p ⟨a.1, a.2, (q : Int), ((q + (attrText a).length : Nat) : Int)⟩ = _ from if_pos ha]
      · simp only [attrEdF]; rw [if_pos ha]
    · have h' : hasStyle al = true := by rw [hasStyle_cons] at h; simpa [ha] using h
      obtain ⟨v, lo, hi, h1, h2, h3, h4⟩ := own_yes t al (q + (attrText a).length) h' hn.2
      refine ⟨v, lo, hi, ?_, fun p => ?_, ?_, by simp [h4]⟩
      · unfold pGet at h1 ⊢
        have hb : (a.1 == styleName) = false := by simpa using ha
        simp only [attrsAt, List.find?_cons, hb]
        exact h1
      · simp only [attrsAt, List.foldl_cons]
        exact h2 _
      · simp only [attrEdF]; rw [if_neg ha]; exact h3
theorem own_attr (t : B) {al : List (B × B)} (hn : (al.map (·.1)).Nodup) (nm : B) (par : Int) (q : Nat) (a b : Int) : (fOwn ⟨nm, par, attrsAt q al, (q : Int), a, b⟩ t).toList = attrEd t q al := by
  unfold fOwn attrEd ownAt
  show (if (pGet (attrsAt q al) styleName).2 = true ∧ (pGet (attrsAt q al) styleName).1 = t ∨ (pGet (attrsAt q al) styleName).2 = false ∧ t = [] then none
    else some (⟨((attrsAt q al).foldl ownStep ((q : Int), (q : Int))).1.toNat, ((attrsAt q al).foldl ownStep ((q : Int), (q : Int))).2.toNat, if t = [] then [] else newStyle t⟩ : PEdit)).toList = _
  cases h : hasStyle al with
  | false =>
    obtain ⟨h1, h2⟩ := own_no al q h
    rw [h1, h2]
    simp only [Bool.false_eq_true, false_and, true_and, false_or, if_false, Int.toNat_natCast]
    split
    · rfl
    · rfl
  | true =>
    obtain ⟨v, lo, hi, h1, h2, h3, _⟩ := own_yes t al q h hn
    rw [h1, h2, h3]
    simp only [true_and, Bool.true_eq_false, false_and, or_false, if_true, Int.toNat_natCast]
    split
    · rfl
    · rfl
theorem own_tree (tx : Nat → B) : ∀ (T : PT) (d c p : Nat) (par : Int), wfP d T → ownL tx c (nodesP par c p T) = ownT tx c p T
  | .nil, _, _, _, _, _ => rfl
  | .text _ n, d, c, p, par, hw => own_tree tx n d c _ par hw.2.2
  | .note _ n, d, c, p, par, hw => own_tree tx n d c _ par hw.2
  | .elem nm al kids n, d, c, p, par, hw => by
    obtain ⟨h1, h2, h3, h4, h5, h6⟩ := hw
    simp only [nodesP, ownL, ownT]
    rw [own_attr _ h4.apart, ownL_app, own_tree tx kids _ _ _ _ h5, nodesP_len, own_tree tx n _ _ _ _ h6]
  | .style al inner n, d, c, p, par, hw => by
    obtain ⟨h1, h4, h5, h6⟩ := hw
    simp only [nodesP, ownL, ownT]
    rw [own_attr _ h4.apart, own_tree tx n _ _ _ _ h6]
theorem ownsEd_ok {l : List PNode} {gone : List PRule} : ∀ {ns : List PNode} {k : Nat} {es : List PEdit}, ownsEd l gone k ns = .ok es →
    es = ownL (fun k => (styleText l k gone).1) k ns ∧ ∀ j n, ns[j]? = some n → (styleText l (k + j) gone).2 = true ∧ ¬ ((pGet n.attrs styleName).2 = false ∧ n.attrs.length = 8 ∧ (styleText l (k + j) gone).1 ≠ [])
  | [], k, es, h => by cases h; exact ⟨rfl, fun j n hn => by simp at hn⟩
  | n :: ns, k, es, h => by
    simp only [ownsEd] at h
    split at h
    · cases h
    · rename_i hc
      obtain ⟨fs, hf, h⟩ := then_ok h
      cases h
      obtain ⟨rfl, ih⟩ := ownsEd_ok hf
      rw [not_or] at hc
      refine ⟨rfl, fun j m hm => ?_⟩
      cases j with
      | zero =>
        simp only [List.getElem?_cons_zero, Option.some.injEq] at hm
        subst hm
        exact ⟨by simpa using hc.1, hc.2⟩
      | succ j =>
        have := ih j m (by simpa using hm)
        rw [show k + 1 + j = k + (j + 1) from by omega] at this
        exact this
theorem EdRise.app {b : Nat} : ∀ {xs ys : List PEdit}, EdRise xs → EdRise ys → (∀ x ∈ xs, x.lo < b) → (∀ y ∈ ys, b ≤ y.lo) → EdRise (xs ++ ys)
  | [], ys, _, hy, _, _ => hy
  | x :: xs, ys, .cons h1 h2, hy, hx, hb => by
    refine .cons (fun y hm => ?_) (EdRise.app h2 hy (fun z hz => hx z (by simp [hz])) hb)
    rcases List.mem_append.1 hm with hm | hm
    · exact h1 y hm
    · have := hx x (by simp); have := hb y hm; omega
theorem EdRise.one (e : PEdit) : EdRise [e] := .cons (by simp) .nil
theorem attrEdF_in (t : B) : ∀ (al : List (B × B)) (q : Nat), EdRise (attrEdF t q al) ∧ ∀ e ∈ attrEdF t q al, q ≤ e.lo ∧ e.lo < q + (attrsText al).length
  | [], q => ⟨.nil, by simp [attrEdF]⟩
  | a :: al, q => by
    have hpos := attrText_pos a
    simp only [attrEdF]
    split
    · split
      · exact ⟨.nil, by simp⟩
      · refine ⟨.one _, fun e he => ?_⟩
        simp at he; subst he
        simp [attrsText]; omega
    · have := attrEdF_in t al (q + (attrText a).length)
      refine ⟨this.1, fun e he => ?_⟩
      have := this.2 e he
      simp [attrsText]; omega
theorem attrEd_in (t : B) (al : List (B × B)) (q : Nat) : EdRise (attrEd t q al) ∧ ∀ e ∈ attrEd t q al, q ≤ e.lo ∧ e.lo < q + (attrsText al).length + 1 := by
  unfold attrEd
  split
  · refine ⟨(attrEdF_in t al q).1, fun e he => ?_⟩
    have := (attrEdF_in t al q).2 e he; omega
  · split
    · exact ⟨.nil, by simp⟩
    · refine ⟨.one _, fun e he => ?_⟩
      simp at he; subst he
      simp; omega
theorem ruleEd_in (g : Nat → Bool) (d : Nat) {w : B} : ∀ (rs : List PRule) (i a : Nat), Placed w a rs → EdRise (ruleEd g d i rs) ∧ ∀ e ∈ ruleEd g d i rs, d + a ≤ e.lo ∧ e.lo < d + w.length
  | [], _, _, _ => ⟨.nil, by simp [ruleEd]⟩
  | r :: rs, i, a, ⟨lo, hi, h1, h2, h3, h4, h5, h6, h7⟩ => by
    have ih := ruleEd_in g d rs (i + 1) hi h7
    simp only [ruleEd]
    split
    · refine ⟨.cons (fun y hy => ?_) ih.1, fun e he => ?_⟩
      · have := ih.2 y hy
        simp only [h1, Int.toNat_natCast]; omega
      · rcases List.mem_cons.1 he with rfl | he
        · simp only [h1, Int.toNat_natCast]; omega
        · have := ih.2 e he; omega
    · refine ⟨ih.1, fun e he => ?_⟩
      have := ih.2 e he; omega
theorem tree_rise (tx : Nat → B) (g : Nat → Bool) : ∀ (T : PT) (c i p : Nat), okP T → EdRise (treeEd tx g c i p T) ∧ ∀ e ∈ treeEd tx g c i p T, p ≤ e.lo ∧ e.lo < p + (textP T).length
  | .nil, _, _, _, _ => ⟨.nil, by simp [treeEd]⟩
  | .text _ n, c, i, p, ho => by
    have := tree_rise tx g n c i (p + 1) ho
    refine ⟨this.1, fun e he => ?_⟩
    have := this.2 e he
    simp [textP]; omega
  | .note x n, c, i, p, ho => by
    have := tree_rise tx g n c i (p + (4 + x.length + 3)) ho
    refine ⟨this.1, fun e he => ?_⟩
    have := this.2 e he
    simp [textP, noteBegin, noteEnd]; omega
  | .elem nm al kids n, c, i, p, ho => by
    have k1 := attrEd_in (tx c) al (p + 1 + nm.length)
    have k2 := tree_rise tx g kids (c + 1) i (p + (openText nm al).length) ho.1
    have k3 := tree_rise tx g n (c + 1 + sizeP kids) (i + nRulesP kids) (p + (openText nm al).length + (textP kids).length + (closeText nm).length) ho.2
    have lo : (openText nm al).length = 1 + nm.length + (attrsText al).length + 1 := by simp [openText]; omega
    have lt : (textP (.elem nm al kids n)).length = (openText nm al).length + (textP kids).length + (closeText nm).length + (textP n).length := by simp [textP]; omega
    simp only [treeEd]
    refine ⟨EdRise.app (b := p + (openText nm al).length) k1.1 (EdRise.app (b := p + (openText nm al).length + (textP kids).length) k2.1 k3.1 (fun e he => (k2.2 e he).2) (fun e he => by have := (k3.2 e he).1; omega)) (fun e he => by have := (k1.2 e he).2; omega) (fun e he => ?_), fun e he => ?_⟩
    · rcases List.mem_append.1 he with he | he
      · exact (k2.2 e he).1
      · have := (k3.2 e he).1; omega
    · rcases List.mem_append.1 he with he | he
      · have := k1.2 e he; omega
      · rcases List.mem_append.1 he with he | he
        · have := k2.2 e he; omega
        · have := k3.2 e he; omega
  | .style al inner n, c, i, p, ⟨⟨rs, hr⟩, ho⟩ => by
    have k1 := attrEd_in (tx c) al (p + 1 + styleName.length)
    have k2 := ruleEd_in g (p + (openText styleName al).length) rs i 0 (parse_placed hr)
    have k3 := tree_rise tx g n (c + 1) (i + rs.length) (p + (openText styleName al).length + inner.length + (closeText styleName).length) ho
    have lo : (openText styleName al).length = 1 + styleName.length + (attrsText al).length + 1 := by simp [openText]; omega
    have lt : (textP (.style al inner n)).length = (openText styleName al).length + inner.length + (closeText styleName).length + (textP n).length := by simp [textP]; omega
    simp only [treeEd, rulesOf_ok hr]
    refine ⟨EdRise.app (b := p + (openText styleName al).length) k1.1 (EdRise.app (b := p + (openText styleName al).length + inner.length) k2.1 k3.1 (fun e he => (k2.2 e he).2) (fun e he => by have := (k3.2 e he).1; omega)) (fun e he => by have := (k1.2 e he).2; omega) (fun e he => ?_), fun e he => ?_⟩
    · rcases List.mem_append.1 he with he | he
      · have := (k2.2 e he).1; omega
      · have := (k3.2 e he).1; omega
    · rcases List.mem_append.1 he with he | he
      · have := k1.2 e he; omega
      · rcases List.mem_append.1 he with he | he
        · have := k2.2 e he; omega
        · have := k3.2 e he; omega
structure ReadAs (s : B) (l : List PNode) (rules : List PRule) (T : PT) : Prop where
  len : s.length ≤ 6000
  wf : wfP 1 T
  ok : okP T
  few : sizeP T ≤ 120
  text : s = textP T
  nodes : l = nodesP (-1) 0 0 T
  rulesEq : rules = treeRules 0 T
  most : rules.length ≤ 60
  plain : rulesBad rules = none
  own : nodesBad l = none
theorem read_as {s : B} {l : List PNode} {rules : List PRule} (h : fRead s = .ok (l, rules)) : ∃ T, ReadAs s l rules T := by
  unfold fRead at h
  obtain ⟨l1, h1, h⟩ := then_ok h
  obtain ⟨rs, h2, h⟩ := then_ok h
  obtain ⟨hl, T, t1, t2, t3, t4⟩ := page_inv h1
  split at h
  · cases h
  · rename_i hn
    cases h3 : rulesBad rs with
    | some f => rw [h3] at h; cases h
    | none =>
      cases h4 : nodesBad l1 with
      | some f => rw [h3, h4] at h; cases h
      | none =>
        rw [h3, h4] at h
        cases h
        have hk := style_rules (s := s) T 1 0 (-1) [] [] (by simpa using t3) t1
        rw [List.length_nil, ← t4] at hk
        have ho := hk.1 _ h2
        have := hk.2 ho
        rw [h2] at this
        cases this
        exact ⟨T, hl, t1, ho, t2, t3, t4, rfl, by omega, h3, h4⟩
theorem as_read {s : B} {l : List PNode} {rules : List PRule} {T : PT} (h : ReadAs s l rules T) : fRead s = .ok (l, rules) := by
  obtain ⟨h1, h2, h3, h4, rfl, rfl, rfl, h5, h6, h7⟩ := h
  unfold fRead
  rw [page_read h2 h1 h4, Ans.ok_then]
  have hk := style_rules (s := textP T) T 1 0 (-1) [] [] (by simp) h2
  rw [List.length_nil] at hk
  rw [hk.2 h3, Ans.ok_then, if_neg (by omega), h6]
  simp only [h7]
theorem fold_as {s t : B} {l : List PNode} {rules : List PRule} {st : List Bool} {T : PT} (h : ReadAs s l rules T) (hs : st.length = rules.length) (hf : fFold s l rules st = .ok t) :
    t = textP (foldP (fun k => (styleText l k (goneR rules st)).1) (goes st) 0 0 T) ∧ t.length ≤ 6000 ∧
    ∀ j n, l[j]? = some n → (styleText l j (goneR rules st)).2 = true ∧ ¬ ((pGet n.attrs styleName).2 = false ∧ n.attrs.length = 8 ∧ (styleText l j (goneR rules st)).1 ≠ []) := by
  unfold fFold at hf
  obtain ⟨es, he, hf⟩ := then_ok hf
  obtain ⟨rfl, hc⟩ := ownsEd_ok he
  have ht : sortEd ((goneR rules st).map goneEd ++ ownL (fun k => (styleText l k (goneR rules st)).1) 0 l) = treeEd (fun k => (styleText l k (goneR rules st)).1) (goes st) 0 0 0 T := by
    refine sortEd_eq (tree_rise _ _ T 0 0 0 h.ok).1 ?_
    refine (tree_perm _ _ T 0 0 0).trans ?_
    rw [← gone_tree _ T 0 0 h.ok, ← h.rulesEq, ← gone_keep hs, ← own_tree _ T 1 0 0 (-1) h.wf, ← h.nodes]
  rw [ht] at hf
  have hp := page_makes (fun k => (styleText l k (goneR rules st)).1) (goes st) h.wf h.ok
  rw [← h.text] at hp
  rw [hp.2] at hf
  split at hf
  · cases hf
  · cases hf
    refine ⟨rfl, by omega, fun j n hn => ?_⟩
    have := hc j n hn
    rwa [Nat.zero_add] at this
end Go.Proofs.YtplbdlgmjehckacGreatDoor
