/-
 Lemmas for the claims of this seat: the program's functions walked, and plain laws. In this order: TpLaws2.
-/
import Derived.Test.YtplbdlgmjehckabGreatDoorPk8
namespace Go.Proofs.YtplbdlgmjehckabGreatDoor
set_option linter.unusedVariables false
set_option linter.unusedSimpArgs false
def strongT (x : In1) (u : B) : PT := .style [] (textIn [x]) (.elem [112] [(styleName, u)] (.text 120 .nil) .nil)
theorem decl_val {nm w : B} (h1 : ∀ c ∈ nm, isVal c = true) (hw : WordOk w) : ∀ c ∈ declText nm w, isVal c = true := by
 simp only [declText, List.mem_append]
 rintro x (h | h | h)
 ·exact h1 x h
 ·revert x; decide
 ·exact word_val (hw.2 x h)
theorem bang_val {t g : B} (h1 : ∀ c ∈ t, isVal c = true) (hg : g = [] ∨ g = [32]) : ∀ c ∈ t ++ (g ++ bang), isVal c = true := by
 simp only [List.mem_append]
 rintro x (h | h | h)
 ·exact h1 x h
 ·rcases hg with rfl | rfl
  ·cases h
  ·revert x; decide
 ·revert x; decide
theorem bang_ne60 {t g : B} (h1 : ∀ c ∈ t, c ≠ 60) (hg : g = [] ∨ g = [32]) : ∀ c ∈ t ++ (g ++ bang), c ≠ 60 := by
 simp only [List.mem_append]
 rintro x (h | h | h)
 ·exact h1 x h
 ·rcases hg with rfl | rfl
  ·cases h
  ·revert x; decide
 ·revert x; decide
theorem own_is {nm : B} {par : Int} {p : Nat} {u : B} {e : PDecl} {x y z : Int} (hu : sDeclsOf u = .ok [e]) (he : e.name ≠ edgeName) : ownOf ⟨nm, par, attrsAt p [(styleName, u)], x, y, z⟩ = [e] := by
 have : ownDecls ⟨nm, par, attrsAt p [(styleName, u)], x, y, z⟩ = .ok [e] := by
  unfold ownDecls
  have : (pGet (attrsAt p [(styleName, u)]) styleName).1 = u := by rfl
  simp only [this, hu]
  rw [all_of_plain (x := [e]) (by simpa using he)]
 unfold ownOf
 rw [this]
theorem attr_style {u : B} (hu : ∀ c ∈ u, isVal c = true) : AttrsOk [(styleName, u)] := ⟨by
 simp only [List.mem_cons, List.not_mem_nil, or_false]
 rintro a rfl
 exact show NameOk styleName from ⟨by decide +kernel, by decide, by decide⟩, by simpa using hu, by simp, by simp⟩
theorem strong_as {s t u : B} {ss : List PSel} {d e : PDecl} (hs : SelT s ss) (hd : DeclT t d) (he : DeclT u e) (h1 : ∀ c ∈ s, c ≠ 60) (h2 : ∀ c ∈ t, c ≠ 60) (h3 : ∀ c ∈ u, isVal c = true) (l1 : s.length ≤ 10) (l2 : t.length ≤ 60) (l3 : u.length ≤ 60)
  (hdn : d.name ≠ edgeName) (hen : e.name ≠ edgeName) : TopAs (strongT (rul s ss t d) u) [sr ss d] := by
 have hwf : ∀ x ∈ [rul s ss t d], x.wf := by simpa using rul_wf hs hd
 have hl : (textIn [rul s ss t d]).length ≤ 80 := by simp [textIn, rul, In1.text, ruleText]; omega
 have hsp := sheet_in hwf (by omega) (by simp [rulesIn, rul])
 have hne : ∀ c' ∈ textIn [rul s ss t d], c' ≠ 60 := textIn_ne60 fun x hx => by
  obtain rfl : x = rul s ss t d := by simpa using hx
  exact rul_ne60 h1 h2
 have how := own_one he (by omega)
 refine ⟨?_, ⟨⟨_, hsp⟩, trivial, trivial⟩, ?_, by simp [strongT, sizeP], ?_, by simp, ?_, ?_⟩
 ·exact ⟨by omega, attrNone, no_tag hne, by omega, name_p, by decide, attr_style h3, ⟨by decide, by decide, trivial⟩, trivial⟩
 ·simp [strongT, textP, openText, closeText, attrsText, attrText, styleName]; omega
 ·show (treeRules 0 (.style [] (textIn [rul s ss t d]) _)).map stripR = _
  simp only [treeRules, rulesOf_ok hsp, List.append_nil]
  rfl
 ·simp only [List.mem_cons, List.not_mem_nil, or_false]
  rintro r rfl
  exact pall_one hdn
 ·unfold nodesBad
  rw [List.findSome?_eq_none_iff]
  intro x hx
  obtain ⟨n, hn, hx⟩ := List.mem_flatMap.1 hx
  simp only [strongT, nodesP, List.nil_append, List.append_nil, List.mem_cons, List.not_mem_nil, or_false, List.mem_append] at hn
  rcases hn with rfl | rfl
  ·cases hx
  ·simp only [attrsAt, List.mem_cons, List.not_mem_nil, or_false] at hx
   subst hx
   unfold attrBad
   rw [if_pos rfl]
   simp only [how]
   rw [all_of_plain (x := [e]) (by simpa using hen)]
   rfl
theorem strong_law {s t u : B} {ss : List PSel} {d e : PDecl} (hs : SelT s ss) (hd : DeclT t d) (he : DeclT u e) (h1 : ∀ c ∈ s, c ≠ 60) (h2 : ∀ c ∈ t, c ≠ 60) (h3 : ∀ c ∈ u, isVal c = true) (l1 : s.length ≤ 10) (l2 : t.length ≤ 60) (l3 : u.length ≤ 60)
  (hdn : d.name ≠ edgeName) (hen : e.name ≠ edgeName) {T : PT} (hT : T = strongT (rul s ss t d) u)
  {look : List PDecl} (hlook : cLook (rcl (nodesP (-1) 0 0 (strongT (rul s ss t d) u)) 1 [] [sr ss d] ++ ownClaims [e]) = look) (hl : look.length ≤ 4) (hz : cLook (rcl (nodesP (-1) 0 0 (strongT (rul s ss t d) u)) 0 [] [sr ss d] ++ ownClaims []) = []) :
  fRead (textP T) = .ok (nodesP (-1) 0 0 T, treeRules 0 T) ∧ ∀ st, IsStays (nodesP (-1) 0 0 T) (treeRules 0 T) st → ∃ t m n1, fFold (textP T) (nodesP (-1) 0 0 T) (treeRules 0 T) st = .ok t ∧ pParse t = .ok m ∧ m.length = 2 ∧ m[1]? = some n1 ∧ (pGet n1.attrs styleName).1 = sPrint look := by
 subst hT
 have H := strong_as hs hd he h1 h2 h3 l1 l2 l3 hdn hen
 refine ⟨as_read H.read, fun st S => ?_⟩
 have how := own_one he (by omega)
 have hL : ∀ (j : Nat) (n : PNode), (nodesP (-1) 0 0 (strongT (rul s ss t d) u))[j]? = some n →
   cLook (rcl (nodesP (-1) 0 0 (strongT (rul s ss t d) u)) (j : Int) [] [sr ss d] ++ ownClaims (ownOf n)) = (if j = 0 then [] else look) ∧ n.attrs.length < 8 := by
  intro j n hn
  match j, hn with
  | 0, hn => have := Option.some.inj hn; subst this; exact ⟨hz, by rw [attrsAt_len]; decide⟩
  | 1, hn =>
   have := Option.some.inj hn
   subst this
   exact ⟨by rw [own_is how hen]; exact hlook, by rw [attrsAt_len]; simp⟩
  | j + 2, hn => cases hn
 obtain ⟨tx, t', m, g1, g2, g3, g4, g5, g6⟩ := H.fold (by
  intro r hr
  simp only [List.mem_cons, List.not_mem_nil, or_false] at hr
  subst hr; rfl) (fun j n hn => by
  obtain ⟨e1, e2⟩ := hL j n hn
  refine ⟨?_, e2⟩
  rw [e1]
  split
  ·simp
  ·exact hl) S
 obtain ⟨n1, k1, k1'⟩ := g6 1 _ rfl
 exact ⟨t', m, n1, g3, g4, g5, k1, by rw [k1', g1 1 _ rfl, (hL 1 _ rfl).1]; rfl⟩
theorem color_ne : colorName ≠ edgeName := by decide
def strongB (nm w : B) : B := nm ++ [58, 32] ++ w ++ ([32, 33] ++ importantWord)
theorem top_strong1 {a b : B} (ha : TopW a) (hb : TopW b) {T : PT} (hT : T = strongT (rul [112] [tyP 112] (declText colorName a) ⟨colorName, a, false⟩) (declText colorName b)) :
  fRead (textP T) = .ok (nodesP (-1) 0 0 T, treeRules 0 T) ∧ ∀ st, IsStays (nodesP (-1) 0 0 T) (treeRules 0 T) st → ∃ t m n1, fFold (textP T) (nodesP (-1) 0 0 T) (treeRules 0 T) st = .ok t ∧ pParse t = .ok m ∧ m.length = 2 ∧ m[1]? = some n1 ∧ (pGet n1.attrs styleName).1 = declTextB colorName b :=
 strong_law selT_p (declT_plain name_color ha) (declT_plain name_color hb) (by decide) (declText_ne60 (by decide) ha.word) (decl_val (by decide) hb.word) (by decide) (by have := ha.len; simp [declText, colorName]; omega) (by have := hb.len; simp [declText, colorName]; omega)
  color_ne color_ne hT (look := [⟨colorName, b, false⟩]) (by rfl) (by simp) (by rfl)
theorem top_strong2 {a b : B} (ha : TopW a) (hb : TopW b) {T : PT} (hT : T = strongT (rul [112] [tyP 112] (declText colorName a ++ ([32] ++ bang)) ⟨colorName, a, true⟩) (declText colorName b)) :
  fRead (textP T) = .ok (nodesP (-1) 0 0 T, treeRules 0 T) ∧ ∀ st, IsStays (nodesP (-1) 0 0 T) (treeRules 0 T) st → ∃ t m n1, fFold (textP T) (nodesP (-1) 0 0 T) (treeRules 0 T) st = .ok t ∧ pParse t = .ok m ∧ m.length = 2 ∧ m[1]? = some n1 ∧ (pGet n1.attrs styleName).1 = strongB colorName a :=
 strong_law selT_p (declT_strong name_color ha (.inr rfl)) (declT_plain name_color hb) (by decide) (bang_ne60 (declText_ne60 (by decide) ha.word) (.inr rfl)) (decl_val (by decide) hb.word) (by decide) (by have := ha.len; simp [declText, colorName, bang, importantWord]; omega) (by have := hb.len; simp [declText, colorName]; omega)
  color_ne color_ne hT (look := [⟨colorName, a, true⟩]) (by rfl) (by simp) (by rfl)
theorem top_strong3 {a b : B} (ha : TopW a) (hb : TopW b) {T : PT} (hT : T = strongT (rul [35, 122, 44, 112] [[⟨0, [⟨3, [122], []⟩]⟩], tyP 112] (declText colorName a ++ ([32] ++ bang)) ⟨colorName, a, true⟩) (declText colorName b ++ ([] ++ bang))) :
  fRead (textP T) = .ok (nodesP (-1) 0 0 T, treeRules 0 T) ∧ ∀ st, IsStays (nodesP (-1) 0 0 T) (treeRules 0 T) st → ∃ t m n1, fFold (textP T) (nodesP (-1) 0 0 T) (treeRules 0 T) st = .ok t ∧ pParse t = .ok m ∧ m.length = 2 ∧ m[1]? = some n1 ∧ (pGet n1.attrs styleName).1 = strongB colorName b :=
 strong_law selT_zp (declT_strong name_color ha (.inr rfl)) (declT_strong name_color hb (.inl rfl)) (by decide) (bang_ne60 (declText_ne60 (by decide) ha.word) (.inr rfl)) (bang_val (decl_val (by decide) hb.word) (.inl rfl)) (by decide) (by have := ha.len; simp [declText, colorName, bang, importantWord]; omega) (by have := hb.len; simp [declText, colorName, bang, importantWord]; omega)
  color_ne color_ne hT (look := [⟨colorName, b, true⟩]) (by rfl) (by simp) (by rfl)
def edgeT (xs : List In1) : PT := .style [] (textIn xs) (.elem [112] [] (.text 120 .nil) .nil)
def redge (a : B) : In1 := rul [112] [tyP 112] (declText edgeName a) ⟨edgeName, a, false⟩
def rleft (b : B) : In1 := rul [112] [tyP 112] (declText edgeLeft b) ⟨edgeLeft, b, false⟩
def eXs (a b : B) (o : Bool) : List In1 := if o then [redge a, rleft b] else [rleft b, redge a]
def eRs (a b : B) (o : Bool) : List PRule := if o then [sr [tyP 112] ⟨edgeName, a, false⟩, sr [tyP 112] ⟨edgeLeft, b, false⟩] else [sr [tyP 112] ⟨edgeLeft, b, false⟩, sr [tyP 112] ⟨edgeName, a, false⟩]
def eLook (a b : B) (o : Bool) : List PDecl := [⟨edgeBottom, a, false⟩, ⟨edgeLeft, if o then b else a, false⟩, ⟨edgeRight, a, false⟩, ⟨edgeTop, a, false⟩]
end Go.Proofs.YtplbdlgmjehckabGreatDoor

