/-
  Lemmas for the claims of this seat: the program's functions walked, and plain laws. In this order: TpLaws4.
-/
import Derived.Test.YtplbdlgmjehckadGreatDoorPk8
namespace Go.Proofs.YtplbdlgmjehckadGreatDoor
set_option linter.unusedVariables false
set_option linter.unusedSimpArgs false
theorem declsL_semi {t : B} {d : PDecl} (h : DeclT t d) {ds : List PDecl} (hd : ds.length < 20) (f : Nat) {m : B} (hm : stops m = true) (b : Nat) : sDeclsL (f + 1) ds (t ++ (59 :: m)) b = sDeclsL f (ds ++ [d]) m (b + t.length + 1) := by
  simp only [sDeclsL]
  rw [(h.ready _).2, if_neg (by simp), if_neg (by omega), then_of (h.read _ (.inr (.inl ⟨_, rfl⟩)) b)]
  simp only
  rw [show ([59] : B).isPrefixOf (59 :: m) = true from rfl, if_pos rfl]
  show (sGap m (b + t.length + 1)).then _ = _
  rw [then_of (gap_stop _ hm)]
theorem declsL_last {t : B} {d : PDecl} (h : DeclT t d) {ds : List PDecl} (hd : ds.length < 20) (f : Nat) (b : Nat) : sDeclsL (f + 1) ds t b = .ok (ds ++ [d], [], b + t.length) := by
  have h1 := h.ready []
  have h2 := h.read [] (.inl rfl) b
  rw [List.append_nil] at h1 h2
  simp only [sDeclsL]
  rw [h1.2, if_neg (by simp), if_neg (by omega), then_of h2]
  rfl
def ownU (a b c : B) : B := declText sizeName a ++ (59 :: (declText colorName b ++ (59 :: declText sizeName c)))
theorem ownU_read {a b c : B} (ha : TopW a) (hb : TopW b) (hc : TopW c) : sDeclsOf (ownU a b c) = .ok [⟨sizeName, a, false⟩, ⟨colorName, b, false⟩, ⟨sizeName, c, false⟩] := by
  have h1 := declT_plain name_size ha
  have h2 := declT_plain name_color hb
  have h3 := declT_plain name_size hc
  have r3 := (h3.ready []).1
  rw [List.append_nil] at r3
  have hl : (ownU a b c).length ≤ 4000 ∧ 3 ≤ (ownU a b c).length := by
    have := ha.len; have := hb.len; have := hc.len
    simp [ownU, declText, sizeName, colorName]; omega
  unfold sDeclsOf
  rw [if_neg (by omega)]
  have : sDecls (ownU a b c) 0 = .ok ([⟨sizeName, a, false⟩, ⟨colorName, b, false⟩, ⟨sizeName, c, false⟩], [], 0 + (declText sizeName a).length + 1 + (declText colorName b).length + 1 + (declText sizeName c).length) := by
    unfold sDecls
    rw [then_of (show sGap (ownU a b c) 0 = .ok (ownU a b c, 0) from gap_stop _ (h1.ready _).1)]
    simp only
    obtain ⟨f, hf⟩ : ∃ f, (ownU a b c).length + 1 = f + 3 := ⟨(ownU a b c).length - 2, by omega⟩
    rw [hf]
    unfold ownU
    rw [declsL_semi h1 (by simp) (f + 2) (h2.ready _).1, declsL_semi h2 (by simp) (f + 1) r3, declsL_last h3 (by simp) f]
    rfl
  rw [then_of this]
  rfl
def langName : B := [108, 97, 110, 103]
def ownPg (u : B) : PT := .elem [112] [(idName, [113]), (styleName, u), (langName, [101, 110])] (.text 120 .nil) .nil
theorem ownU_val {a b c : B} (ha : TopW a) (hb : TopW b) (hc : TopW c) : ∀ x ∈ ownU a b c, isVal x = true := by
  have h1 : ∀ x ∈ declText sizeName a, isVal x = true := decl_val (by decide) ha.word
  have h2 : ∀ x ∈ declText colorName b, isVal x = true := decl_val (by decide) hb.word
  have h3 : ∀ x ∈ declText sizeName c, isVal x = true := decl_val (by decide) hc.word
  simp only [ownU, List.mem_append, List.mem_cons]
  rintro x (h | rfl | h | rfl | h)
  · exact h1 x h
  · decide
  · exact h2 x h
  · decide
  · exact h3 x h
theorem attr_own {u : B} (hu : ∀ c ∈ u, isVal c = true) : AttrsOk [(idName, [113]), (styleName, u), (langName, [101, 110])] := ⟨by
  simp only [List.mem_cons, List.not_mem_nil, or_false]
  rintro a (rfl | rfl | rfl)
  · exact show NameOk idName from ⟨by decide +kernel, by decide, by decide⟩
  · exact show NameOk styleName from ⟨by decide +kernel, by decide, by decide⟩
  · exact show NameOk langName from ⟨by decide +kernel, by decide, by decide⟩, by
  simp only [List.mem_cons, List.not_mem_nil, or_false]
  rintro a (rfl | rfl | rfl)
  · decide
  · exact hu
  · decide, by simp, by simp [idName, styleName, langName]⟩
theorem own_three {a b c : B} (ha : TopW a) (hb : TopW b) (hc : TopW c) {nm : B} {par : Int} {p : Nat} {x y z : Int} : ownOf ⟨nm, par, attrsAt p [(idName, [113]), (styleName, ownU a b c), (langName, [101, 110])], x, y, z⟩ = [⟨sizeName, a, false⟩, ⟨colorName, b, false⟩, ⟨sizeName, c, false⟩] := by
  have : ownDecls ⟨nm, par, attrsAt p [(idName, [113]), (styleName, ownU a b c), (langName, [101, 110])], x, y, z⟩ = .ok [⟨sizeName, a, false⟩, ⟨colorName, b, false⟩, ⟨sizeName, c, false⟩] := by
    unfold ownDecls
    have : (pGet (attrsAt p [(idName, [113]), (styleName, ownU a b c), (langName, [101, 110])]) styleName).1 = ownU a b c := by rfl
    simp only [this, ownU_read ha hb hc]
    rfl
  unfold ownOf
  rw [this]
theorem own_as {a b c : B} (ha : TopW a) (hb : TopW b) (hc : TopW c) : TopAs (ownPg (ownU a b c)) [] := by
  have hl : (ownU a b c).length ≤ 100 := by
    have := ha.len; have := hb.len; have := hc.len
    simp [ownU, declText, sizeName, colorName]; omega
  refine ⟨⟨by omega, name_p, by decide, attr_own (ownU_val ha hb hc), ⟨by decide, by decide, trivial⟩, trivial⟩, ⟨trivial, trivial⟩, ?_, by simp [ownPg, sizeP], rfl, by simp, by simp, ?_⟩
  · simp [ownPg, textP, openText, closeText, attrsText, attrText, styleName, idName, langName]; omega
  · unfold nodesBad
    rw [List.findSome?_eq_none_iff]
    intro x hx
    obtain ⟨n, hn, hx⟩ := List.mem_flatMap.1 hx
    simp only [ownPg, nodesP, List.nil_append, List.append_nil, List.mem_cons, List.not_mem_nil, or_false, List.mem_append] at hn
    subst hn
    simp only [attrsAt, List.mem_cons, List.not_mem_nil, or_false] at hx
    rcases hx with rfl | rfl | rfl
    · rfl
    · unfold attrBad
      rw [if_pos rfl]
      simp only [ownU_read ha hb hc]
      rfl
    · rfl
def ownWant (b c : B) : B := sPrint [⟨colorName, b, false⟩, ⟨sizeName, c, false⟩]
theorem top_own {a b c : B} (ha : TopW a) (hb : TopW b) (hc : TopW c) {T : PT} (hT : T = ownPg (ownU a b c)) :
    fRead (textP T) = .ok (nodesP (-1) 0 0 T, treeRules 0 T) ∧ ∀ st, IsStays (nodesP (-1) 0 0 T) (treeRules 0 T) st → fFold (textP T) (nodesP (-1) 0 0 T) (treeRules 0 T) st = .ok (textP (ownPg (ownWant b c))) ∧
      ∃ m qs, fRead (textP (ownPg (ownWant b c))) = .ok (m, qs) ∧ ∀ st', IsStays m qs st' → fFold (textP (ownPg (ownWant b c))) m qs st' = .ok (textP (ownPg (ownWant b c))) := by
  subst hT
  have H := own_as ha hb hc
  refine ⟨as_read H.read, fun st S => ?_⟩
  have hL : ∀ (j : Nat) (n : PNode), (nodesP (-1) 0 0 (ownPg (ownU a b c)))[j]? = some n →
      cLook (rcl (nodesP (-1) 0 0 (ownPg (ownU a b c))) (j : Int) [] [] ++ ownClaims (ownOf n)) = [⟨colorName, b, false⟩, ⟨sizeName, c, false⟩] ∧ n.attrs.length < 8 := by
    intro j n hn
    match j, hn with
    | 0, hn =>
      have := Option.some.inj hn
      subst this
      exact ⟨by rw [own_three ha hb hc]; rfl, by rw [attrsAt_len]; simp⟩
    | j + 1, hn => cases hn
  obtain ⟨tx, t', m, g1, g2, g3, g4, g5, g6⟩ := H.fold (by simp) (fun j n hn => by
    obtain ⟨e1, e2⟩ := hL j n hn
    exact ⟨by rw [e1]; simp, e2⟩) S
  have t0 : tx 0 = ownWant b c := by rw [g1 0 _ rfl, (hL 0 _ rfl).1]; rfl
  have hne : ownWant b c ≠ [] := by simp [ownWant, sPrint, printOne, colorName]
  have hf : foldP tx (goes st) 0 0 (ownPg (ownU a b c)) = ownPg (ownWant b c) := by
    have hs : setStyle [(idName, [113]), (styleName, ownU a b c), (langName, [101, 110])] (ownWant b c) = [(idName, [113]), (styleName, ownWant b c), (langName, [101, 110])] := by
      unfold setStyle
      rw [if_pos (by rfl), if_neg hne]
      rfl
    simp only [ownPg, foldP, t0, hs]
  rw [hf] at g2
  subst g2
  refine ⟨g3, ?_⟩
  obtain ⟨m', qs, F⟩ := fold_reads H.read S.len g3
  exact ⟨m', qs, as_read F.dst, fun st' S' => fold_twice F S S'⟩
def rsp (b : B) : In1 := rul [112] [tyP 112] (declText sizeName b) ⟨sizeName, b, false⟩
def mediaIts (a b c : B) : List It := [.plain (rco a), .plain (rsp b), .media wideW wideHead [rco c]]
def mediaT (a b c : B) : PT := .style [] (textIt (mediaIts a b c)) (.elem [112] [] (.text 120 .nil) .nil)
def mr (md : B) (d : PDecl) (lo hi : Int) : PRule := ⟨md, [tyP 112], [d], lo, hi⟩
theorem media_rules (a b c : B) : ∃ x0 y0 x1 y1 x2 y2 : Int, (rulesIt 0 (mediaIts a b c)).map (PRule.shift (0 + (openText styleName []).length)) = [mr [] ⟨colorName, a, false⟩ x0 y0, mr [] ⟨sizeName, b, false⟩ x1 y1, mr wideW ⟨colorName, c, false⟩ x2 y2] :=
  ⟨_, _, _, _, _, _, rfl⟩
theorem media_text_len {a b c : B} (ha : TopW a) (hb : TopW b) (hc : TopW c) : (textIt (mediaIts a b c)).length ≤ 200 := by
  have := ha.len; have := hb.len; have := hc.len
  simp [mediaIts, textIt, It.text, textIn, rco, rsp, rul, In1.text, ruleText, declText, colorName, sizeName, mediaWord, wideHead]; omega
theorem media_wf {a b c : B} (ha : TopW a) (hb : TopW b) (hc : TopW c) : ∀ x ∈ mediaIts a b c, x.wf := by
  have h1 : (rco a).wf := rul_wf selT_p (declT_plain name_color ha)
  have h2 : (rsp b).wf := rul_wf selT_p (declT_plain name_size hb)
  have h3 : (rco c).wf := rul_wf selT_p (declT_plain name_color hc)
  simp only [mediaIts, List.mem_cons, List.not_mem_nil, or_false]
  rintro x (rfl | rfl | rfl)
  · exact h1
  · exact h2
  · exact ⟨headT_wide, by simpa using h3⟩
theorem media_ne60 {a b c : B} (ha : TopW a) (hb : TopW b) (hc : TopW c) : ∀ x ∈ textIt (mediaIts a b c), x ≠ 60 := by
  have h1 : ∀ x ∈ (rco a).text, x ≠ 60 := rul_ne60 (by decide) (declText_ne60 (by decide) ha.word)
  have h2 : ∀ x ∈ (rsp b).text, x ≠ 60 := rul_ne60 (by decide) (declText_ne60 (by decide) hb.word)
  have h3 : ∀ x ∈ (rco c).text, x ≠ 60 := rul_ne60 (by decide) (declText_ne60 (by decide) hc.word)
  simp only [mediaIts, textIt, It.text, textIn, List.mem_append, List.append_nil]
  rintro x (h | h | h | h | h | h)
  · exact h1 x h
  · exact h2 x h
  · revert x; decide
  · revert x; decide
  · exact h3 x h
  · revert x; decide
theorem media_read {a b c : B} (ha : TopW a) (hb : TopW b) (hc : TopW c) : ReadAs (textP (mediaT a b c)) (nodesP (-1) 0 0 (mediaT a b c)) (treeRules 0 (mediaT a b c)) (mediaT a b c) ∧
    ∃ x0 y0 x1 y1 x2 y2 : Int, treeRules 0 (mediaT a b c) = [mr [] ⟨colorName, a, false⟩ x0 y0, mr [] ⟨sizeName, b, false⟩ x1 y1, mr wideW ⟨colorName, c, false⟩ x2 y2] := by
  have hl := media_text_len ha hb hc
  have hsp := parse_read (media_wf ha hb hc) (by omega) (by simp [mediaIts, rulesIt, rulesIn, rco, rsp, rul])
  obtain ⟨x0, y0, x1, y1, x2, y2, hr⟩ := media_rules a b c
  have htr : treeRules 0 (mediaT a b c) = [mr [] ⟨colorName, a, false⟩ x0 y0, mr [] ⟨sizeName, b, false⟩ x1 y1, mr wideW ⟨colorName, c, false⟩ x2 y2] := by
    rw [← hr]
    simp only [mediaT, treeRules, rulesOf_ok hsp, List.append_nil]
  refine ⟨⟨?_, ⟨by omega, attrNone, no_tag (media_ne60 ha hb hc), by omega, name_p, by decide, attrNone, ⟨by decide, by decide, trivial⟩, trivial⟩, ⟨⟨_, hsp⟩, trivial, trivial⟩, by simp [mediaT, sizeP], rfl, rfl, rfl, by rw [htr]; simp, ?_, own_none fun n hn x hx => ?_⟩, x0, y0, x1, y1, x2, y2, htr⟩
  · simp [mediaT, textP, openText, closeText, attrsText, attrText, styleName]; omega
  · rw [htr]; rfl
  · simp only [mediaT, nodesP, List.nil_append, List.append_nil, List.mem_cons, List.not_mem_nil, or_false, List.mem_append] at hn
    rcases hn with rfl | rfl <;> cases hx
theorem media_stays {a b c : B} {l : List PNode} (hl : l = nodesP (-1) 0 0 (mediaT a b c)) {x0 y0 x1 y1 x2 y2 : Int} {st : List Bool} (S : IsStays l [mr [] ⟨colorName, a, false⟩ x0 y0, mr [] ⟨sizeName, b, false⟩ x1 y1, mr wideW ⟨colorName, c, false⟩ x2 y2] st) : st = [true, false, true] := by
  subst hl
  have t0 : touches (nodesP (-1) 0 0 (mediaT a b c)) (mr [] ⟨colorName, a, false⟩ x0 y0) = [(1, colorName)] := by rfl
  have t1 : touches (nodesP (-1) 0 0 (mediaT a b c)) (mr [] ⟨sizeName, b, false⟩ x1 y1) = [(1, sizeName)] := by rfl
  have t2 : touches (nodesP (-1) 0 0 (mediaT a b c)) (mr wideW ⟨colorName, c, false⟩ x2 y2) = [(1, colorName)] := by rfl
  have s2 : Stay (nodesP (-1) 0 0 (mediaT a b c)) [mr [] ⟨colorName, a, false⟩ x0 y0, mr [] ⟨sizeName, b, false⟩ x1 y1, mr wideW ⟨colorName, c, false⟩ x2 y2] 2 := .media (r := mr wideW ⟨colorName, c, false⟩ x2 y2) rfl (by simp [mr, wideW])
  have s0 : Stay (nodesP (-1) 0 0 (mediaT a b c)) [mr [] ⟨colorName, a, false⟩ x0 y0, mr [] ⟨sizeName, b, false⟩ x1 y1, mr wideW ⟨colorName, c, false⟩ x2 y2] 0 := .meet (j := 2) (p := (1, colorName)) rfl rfl s2 (by rw [t0]; simp) (by rw [t2]; simp)
  have key : ∀ i, Stay (nodesP (-1) 0 0 (mediaT a b c)) [mr [] ⟨colorName, a, false⟩ x0 y0, mr [] ⟨sizeName, b, false⟩ x1 y1, mr wideW ⟨colorName, c, false⟩ x2 y2] i → i ≠ 1 := by
    intro i h
    induction h with
    | media hi hm =>
      rintro rfl
      cases hi
      exact hm rfl
    | @meet i j r q p hi hj hs h1 h2 ih =>
      rintro rfl
      cases hi
      rw [t1] at h1
      simp only [List.mem_cons, List.not_mem_nil, or_false] at h1
      subst h1
      match j, hj, ih with
      | 0, hj, _ => cases hj; rw [t0] at h2; simp [sizeName, colorName] at h2
      | 1, _, ih => exact ih rfl
      | 2, hj, _ => cases hj; rw [t2] at h2; simp [sizeName, colorName] at h2
      | j + 3, hj, _ => cases hj
  have s1 : ¬ Stay (nodesP (-1) 0 0 (mediaT a b c)) [mr [] ⟨colorName, a, false⟩ x0 y0, mr [] ⟨sizeName, b, false⟩ x1 y1, mr wideW ⟨colorName, c, false⟩ x2 y2] 1 := fun h => key 1 h rfl
  have hlen := S.len
  match st, hlen, S with
  | [b0, b1, b2], _, S =>
    have h0 := S.iff 0 b0 rfl
    have h1 := S.iff 1 b1 rfl
    have h2 := S.iff 2 b2 rfl
    rw [h0.2 s0, h2.2 s2]
    cases b1 with
    | false => rfl
    | true => exact absurd (h1.1 rfl) s1
theorem top_media {a b c : B} (ha : TopW a) (hb : TopW b) (hc : TopW c) {T : PT} (hT : T = mediaT a b c) :
    fRead (textP T) = .ok (nodesP (-1) 0 0 T, treeRules 0 T) ∧ ∀ st, IsStays (nodesP (-1) 0 0 T) (treeRules 0 T) st → ∃ t m qs n1, fFold (textP T) (nodesP (-1) 0 0 T) (treeRules 0 T) st = .ok t ∧ fRead t = .ok (m, qs) ∧ pParse t = .ok m ∧
      m.length = 2 ∧ qs.length = 2 ∧ m[1]? = some n1 ∧ (pGet n1.attrs styleName).1 = declTextB sizeName b ∧ cValue m 1 qs [] colorName = .ok a ∧ cValue m 1 qs [wideW] colorName = .ok c := by
  subst hT
  obtain ⟨R, x0, y0, x1, y1, x2, y2, hr⟩ := media_read ha hb hc
  refine ⟨as_read R, fun st S => ?_⟩
  have hst : st = [true, false, true] := media_stays rfl (by rw [← hr]; exact S)
  have hg : goneR (treeRules 0 (mediaT a b c)) st = [mr [] ⟨sizeName, b, false⟩ x1 y1] := by rw [hr, hst]; rfl
  have hL : ∀ (j : Nat) (n : PNode), (nodesP (-1) 0 0 (mediaT a b c))[j]? = some n →
      cLook (rcl (nodesP (-1) 0 0 (mediaT a b c)) (j : Int) [] [mr [] ⟨sizeName, b, false⟩ x1 y1] ++ ownClaims (ownOf n)) = (if j = 1 then [⟨sizeName, b, false⟩] else []) ∧ n.attrs.length < 8 := by
    intro j n hn
    match j, hn with
    | 0, hn => have := Option.some.inj hn; subst this; exact ⟨by rfl, by rw [attrsAt_len]; decide⟩
    | 1, hn => have := Option.some.inj hn; subst this; exact ⟨by rfl, by rw [attrsAt_len]; decide⟩
    | j + 2, hn => cases hn
  have hin := R.ok
  obtain ⟨tx, h1, h2⟩ := top_fold R S.len (fun j n hn => by
    rw [hg, (hL j n hn).1]
    exact ⟨by split <;> simp, (hL j n hn).2⟩) (fun tx htx => by
    have := fold_len tx (goes st) 95 (mediaT a b c) 1 0 0 R.wf R.ok (fun k _ hk => by
      rw [Nat.zero_add, ← nodesP_len (mediaT a b c) (-1) 0 0] at hk
      have hn := List.getElem?_eq_getElem hk
      rw [htx k _ hn, hg, (hL k _ hn).1]
      have := hb.len
      split
      · simp [sPrint, printOne, sizeName]; omega
      · simp [sPrint])
    have hlen : (textP (mediaT a b c)).length ≤ 400 := by
      have := media_text_len ha hb hc
      simp [mediaT, textP, openText, closeText, attrsText, attrText, styleName]; omega
    have : sizeP (mediaT a b c) = 2 := rfl
    omega)
  obtain ⟨m, qs, F⟩ := fold_reads R S.len h2
  have hp : pParse (textP (foldP tx (goes st) 0 0 (mediaT a b c))) = .ok m := by
    have := page_read F.dst.wf (by rw [← F.dst.text]; exact F.dst.len) F.dst.few
    rwa [← F.dst.text, ← F.dst.nodes] at this
  obtain ⟨m', hp', hml, hsty⟩ := top_style R S.len h2
  rw [hp] at hp'
  cases hp'
  obtain ⟨n1, k1, k2⟩ := hsty 1 _ rfl
  refine ⟨_, m, qs, n1, h2, as_read F.dst, hp, by rw [hml, nodesP_len]; rfl, ?_, k1, ?_, ?_, ?_⟩
  · rw [(fold_left F).1, hr, hst]; rfl
  · rw [k2, hg, (hL 1 _ rfl).1]; rfl
  · have := fold_value F S 1 [] colorName
    rw [this, hr]; rfl
  · have := fold_value F S 1 [wideW] colorName
    rw [this, hr]; rfl
end Go.Proofs.YtplbdlgmjehckadGreatDoor

