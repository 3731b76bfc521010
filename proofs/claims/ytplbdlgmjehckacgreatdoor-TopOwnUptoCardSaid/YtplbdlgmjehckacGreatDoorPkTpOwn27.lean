/-
  Lemmas for the claims of this seat: the program's functions walked, and plain laws. In this order: TpLaws2 FoRest TpLaws3 TpLaws4.
-/
import Derived.Test.YtplbdlgmjehckacGreatDoorPk8
namespace Go.Proofs.YtplbdlgmjehckacGreatDoor
set_option linter.unusedVariables false
set_option linter.unusedSimpArgs false
def strongT (x : In1) (u : B) : PT := .style [] (textIn [x]) (.elem [112] [(styleName, u)] (.text 120 .nil) .nil)
theorem decl_val {nm w : B} (h1 : ∀ c ∈ nm, isVal c = true) (hw : WordOk w) : ∀ c ∈ declText nm w, isVal c = true := by
  simp only [declText, List.mem_append]
  rintro x (h | h | h)
  · exact h1 x h
  · revert x; decide
  · exact word_val (hw.2 x h)
def strongB (nm w : B) : B := nm ++ [58, 32] ++ w ++ ([32, 33] ++ importantWord)
def edgeT (xs : List In1) : PT := .style [] (textIn xs) (.elem [112] [] (.text 120 .nil) .nil)
def redge (a : B) : In1 := rul [112] [tyP 112] (declText edgeName a) ⟨edgeName, a, false⟩
def rleft (b : B) : In1 := rul [112] [tyP 112] (declText edgeLeft b) ⟨edgeLeft, b, false⟩
def eXs (a b : B) (o : Bool) : List In1 := if o then [redge a, rleft b] else [rleft b, redge a]
def eRs (a b : B) (o : Bool) : List PRule := if o then [sr [tyP 112] ⟨edgeName, a, false⟩, sr [tyP 112] ⟨edgeLeft, b, false⟩] else [sr [tyP 112] ⟨edgeLeft, b, false⟩, sr [tyP 112] ⟨edgeName, a, false⟩]
def eLook (a b : B) (o : Bool) : List PDecl := [⟨edgeBottom, a, false⟩, ⟨edgeLeft, if o then b else a, false⟩, ⟨edgeRight, a, false⟩, ⟨edgeTop, a, false⟩]
theorem plain_edge {a : B} (h : WordOk a) : pAll [⟨edgeName, a, false⟩] = some (edges a a a a false) := by
  have : pExpand ⟨edgeName, a, false⟩ = some (edges a a a a false) := by
    unfold pExpand
    rw [if_pos rfl]
    simp only [splitB_last (word_ne32 h)]
  simp only [pAll, this, List.append_nil]
theorem edge_as {a b : B} (ha : TopW a) (hb : TopW b) (o : Bool) : TopAs (edgeT (eXs a b o)) (eRs a b o) := by
  have hmem : ∀ x ∈ eXs a b o, x = redge a ∨ x = rleft b := by
    intro x hx
    cases o <;> simp only [eXs, Bool.false_eq_true, if_false, if_true, List.mem_cons, List.not_mem_nil, or_false] at hx <;> rcases hx with rfl | rfl <;> simp
  have hwf : ∀ x ∈ eXs a b o, x.wf := by
    intro x hx
    rcases hmem x hx with rfl | rfl
    · exact rul_wf selT_p (declT_plain name_edge ha)
    · exact rul_wf selT_p (declT_plain name_left hb)
  have hl : (textIn (eXs a b o)).length ≤ 120 := by
    have := ha.len; have := hb.len
    cases o <;> simp [eXs, textIn, redge, rleft, rul, In1.text, ruleText, declText, edgeName, edgeLeft] <;> omega
  have hsp := sheet_in hwf (by omega) (by cases o <;> simp [eXs, rulesIn, redge, rleft, rul])
  have hne : ∀ c' ∈ textIn (eXs a b o), c' ≠ 60 := textIn_ne60 fun x hx => by
    rcases hmem x hx with rfl | rfl
    · exact rul_ne60 (by decide) (declText_ne60 (by decide) ha.word)
    · exact rul_ne60 (by decide) (declText_ne60 (by decide) hb.word)
  refine ⟨?_, ⟨⟨_, hsp⟩, trivial, trivial⟩, ?_, by simp [edgeT, sizeP], ?_, by cases o <;> simp [eRs], ?_, ?_⟩
  · exact ⟨by omega, attrNone, no_tag hne, by omega, name_p, by decide, attrNone, ⟨by decide, by decide, trivial⟩, trivial⟩
  · simp [edgeT, textP, openText, closeText, attrsText, attrText, styleName]; omega
  · show (treeRules 0 (.style [] (textIn (eXs a b o)) _)).map stripR = _
    simp only [treeRules, rulesOf_ok hsp, List.append_nil]
    cases o <;> rfl
  · have h1 : pAll [⟨edgeName, a, false⟩] ≠ none := by rw [plain_edge ha.word]; simp
    have h2 : pAll [⟨edgeLeft, b, false⟩] ≠ none := pall_one (show edgeLeft ≠ edgeName by decide)
    cases o <;> simp only [eRs, Bool.false_eq_true, if_false, if_true, List.mem_cons, List.not_mem_nil, or_false] <;> rintro r (rfl | rfl) <;> assumption
  · refine own_none fun n hn x hx => ?_
    simp only [edgeT, nodesP, List.nil_append, List.append_nil, List.mem_cons, List.not_mem_nil, or_false, List.mem_append] at hn
    rcases hn with rfl | rfl <;> cases hx
theorem plainOf_edge {a : B} (h : WordOk a) : plainOf (sr [tyP 112] ⟨edgeName, a, false⟩) = edges a a a a false := by
  unfold plainOf sr
  rw [plain_edge h]; rfl
theorem edge_looks {a b : B} (ha : TopW a) (hb : TopW b) (o : Bool) : ∀ (j : Nat) (n : PNode), (nodesP (-1) 0 0 (edgeT (eXs a b o)))[j]? = some n →
    cLook (rcl (nodesP (-1) 0 0 (edgeT (eXs a b o))) (j : Int) [] (eRs a b o) ++ ownClaims (ownOf n)) = (if j = 0 then [] else eLook a b o) ∧ n.attrs.length < 8 := by
  intro j n hn
  have hp := plainOf_edge ha.word
  cases o <;> match j, hn with
    | 0, hn => have := Option.some.inj hn; subst this; exact ⟨by rfl, by rw [attrsAt_len]; decide⟩
    | 1, hn =>
      have := Option.some.inj hn
      subst this
      refine ⟨?_, by rw [attrsAt_len]; decide⟩
      unfold rcl eRs
      simp only [Bool.false_eq_true, if_false, if_true, List.flatMap_cons, List.flatMap_nil]
      rw [hp]
      rfl
    | j + 2, hn => cases hn
theorem top_edge {a b : B} (ha : TopW a) (hb : TopW b) (o : Bool) {T : PT} (hT : T = edgeT (eXs a b o)) :
    fRead (textP T) = .ok (nodesP (-1) 0 0 T, treeRules 0 T) ∧ ∀ st, IsStays (nodesP (-1) 0 0 T) (treeRules 0 T) st → ∃ t m n1, fFold (textP T) (nodesP (-1) 0 0 T) (treeRules 0 T) st = .ok t ∧ pParse t = .ok m ∧ m.length = 2 ∧ m[1]? = some n1 ∧ (pGet n1.attrs styleName).1 = sPrint (eLook a b o) := by
  subst hT
  have H := edge_as ha hb o
  refine ⟨as_read H.read, fun st S => ?_⟩
  have hL := edge_looks ha hb o
  obtain ⟨tx, t', m, g1, g2, g3, g4, g5, g6⟩ := H.fold (by cases o <;> simp [eRs, sr]) (fun j n hn => by
    obtain ⟨e1, e2⟩ := hL j n hn
    refine ⟨?_, e2⟩
    rw [e1]
    split <;> simp [eLook]) S
  obtain ⟨n1, k1, k1'⟩ := g6 1 _ rfl
  exact ⟨t', m, n1, g3, g4, g5, k1, by rw [k1', g1 1 _ rfl, (hL 1 _ rfl).1]; rfl⟩
end Go.Proofs.YtplbdlgmjehckacGreatDoor

namespace Go.Proofs.YtplbdlgmjehckacGreatDoor
set_option linter.unusedVariables false
set_option linter.unusedSimpArgs false
def behindA : Nat → List PAttr → Nat
  | p, [] => p
  | _, a :: al => behindA a.hi.toNat al
def restTo (n : PNode) : Nat := if n.name = styleName then n.inT.toNat else behindA n.nameEnd.toNat n.attrs
def restF (s : B) : Nat → List PNode → B
  | a, [] => s.drop a
  | a, n :: ns => sub s a n.nameEnd.toNat ++ restF s (restTo n) ns
def runsA (s : B) : Nat → List PAttr → Prop
  | p, [] => s[p]? = some 62
  | p, a :: al => a.lo = (p : Int) ∧ s[p]? = some 32 ∧ (p : Int) < a.hi ∧ runsA s a.hi.toNat al
def restOk (s : B) : Nat → List PNode → Prop
  | a, [] => a ≤ s.length
  | a, n :: ns => (a : Int) ≤ n.nameEnd ∧ n.nameEnd.toNat ≤ s.length ∧ runsA s n.nameEnd.toNat n.attrs ∧ 0 ≤ n.inT ∧ restOk s (restTo n) ns
def restP : PT → B
  | .nil => []
  | .text c n => c :: restP n
  | .note x n => noteBegin ++ (x ++ (noteEnd ++ restP n))
  | .elem nm al kids n => [60] ++ (nm ++ ([62] ++ (restP kids ++ (closeText nm ++ restP n))))
  | .style al inner n => [60] ++ (styleName ++ (closeText styleName ++ restP n))
theorem restOk.early {s : B} {a b : Nat} {ns : List PNode} (h : restOk s b ns) (hab : a ≤ b) : restOk s a ns := by
  cases ns with
  | nil => exact Nat.le_trans hab h
  | cons n ns => obtain ⟨h1, h2⟩ := h; exact ⟨by omega, h2⟩
theorem restOk.from {s : B} {a b : Nat} {ns : List PNode} (h : restOk s b ns) (hab : a ≤ b) : restF s a ns = sub s a b ++ restF s b ns := by
  cases ns with
  | nil => simp only [restF]; exact (sub_to hab).symm
  | cons n ns =>
    obtain ⟨h1, h2, _⟩ := h
    simp only [restF]
    rw [← List.append_assoc, sub_append s hab (by omega)]
end Go.Proofs.YtplbdlgmjehckacGreatDoor

namespace Go.Proofs.YtplbdlgmjehckacGreatDoor
set_option linter.unusedVariables false
set_option linter.unusedSimpArgs false
def rco (a : B) : In1 := rul [112] [tyP 112] (declText colorName a) ⟨colorName, a, false⟩
def rsz (b : B) : In1 := rul [98] [tyP 98] (declText sizeName b) ⟨sizeName, b, false⟩
def whereP (n : PT) : PT := .elem [112] [] (.text 120 (.elem [98] [] (.text 121 .nil) .nil)) n
def whereT (a b : B) : Nat → PT
  | 0 => .style [] (textIn [rco a, rsz b]) (whereP .nil)
  | 1 => whereP (.style [] (textIn [rco a, rsz b]) .nil)
  | _ => .style [] (textIn [rco a]) (whereP (.style [] (textIn [rsz b]) .nil))
def wantP (a b : B) (n : PT) : PT := .elem [112] [(styleName, declTextB colorName a)] (.text 120 (.elem [98] [(styleName, declTextB sizeName b)] (.text 121 .nil) .nil)) n
def wantT (a b : B) : Nat → PT
  | 0 => .style [] [32, 32] (wantP a b .nil)
  | 1 => wantP a b (.style [] [32, 32] .nil)
  | _ => .style [] [32] (wantP a b (.style [] [32] .nil))
def wRules (a b : B) : List PRule := [sr [tyP 112] ⟨colorName, a, false⟩, sr [tyP 98] ⟨sizeName, b, false⟩]
def whereLook (a b : B) (o j : Nat) : List PDecl :=
  let k := if o = 1 then j + 1 else j
  if k = 1 then [⟨colorName, a, false⟩] else if k = 2 then [⟨sizeName, b, false⟩] else []
end Go.Proofs.YtplbdlgmjehckacGreatDoor

namespace Go.Proofs.YtplbdlgmjehckacGreatDoor
set_option linter.unusedVariables false
set_option linter.unusedSimpArgs false
theorem declsL_semi {t : B} {d : PDecl} (h : DeclT t d) {ds : List PDecl} (hd : ds.length < 20) (f : Nat) {m : B} (hm : stops m = true) (b : Nat) : sDeclsL (f + 1) ds (t ++ (59 :: m)) b = sDeclsL f (ds ++ [d]) m (b + t.length + 1) := by
  simp only [sDeclsL]
  rw [(h.ready _).2, if_neg (by simp), if_neg (by omega), then_of (h.read _ (.inr (.inl ⟨_, rfl⟩)) b)]
  simp only
  rw [show ([59] : B).isPrefixOf (59 :: m) = true from rfl, if_pos rfl]
  show (sGap m (b + t.length + 1)).then _ = _
  rw [then_of (gap_stop _ hm)]
theorem declsL_last {t : B} {d : PDecl} (h : DeclT t d) {ds : List PDecl} (hd : ds.length < 20) (f : Nat) (b : Nat) : sDeclsL (f + 1) ds t b = .ok (ds ++ [d], [], b + t.length) := by
  have h1 := h.ready []
  have h2 := h.read [] (.inl rfl) b
  rw [List.append_nil] at h1 h2
  simp only [sDeclsL]
  rw [h1.2, if_neg (by simp), if_neg (by omega), then_of h2]
  rfl
def ownU (a b c : B) : B := declText sizeName a ++ (59 :: (declText colorName b ++ (59 :: declText sizeName c)))
theorem ownU_read {a b c : B} (ha : TopW a) (hb : TopW b) (hc : TopW c) : sDeclsOf (ownU a b c) = .ok [⟨sizeName, a, false⟩, ⟨colorName, b, false⟩, ⟨sizeName, c, false⟩] := by
  have h1 := declT_plain name_size ha
  have h2 := declT_plain name_color hb
  have h3 := declT_plain name_size hc
  have r3 := (h3.ready []).1
  rw [List.append_nil] at r3
  have hl : (ownU a b c).length ≤ 4000 ∧ 3 ≤ (ownU a b c).length := by
    have := ha.len; have := hb.len; have := hc.len
    simp [ownU, declText, sizeName, colorName]; omega
  unfold sDeclsOf
  rw [if_neg (by omega)]
  have : sDecls (ownU a b c) 0 = .ok ([⟨sizeName, a, false⟩, ⟨colorName, b, false⟩, ⟨sizeName, c, false⟩], [], 0 + (declText sizeName a).length + 1 + (declText colorName b).length + 1 + (declText sizeName c).length) := by
    unfold sDecls
    rw [then_of (show sGap (ownU a b c) 0 = .ok (ownU a b c, 0) from gap_stop _ (h1.ready _).1)]
    simp only
    obtain ⟨f, hf⟩ : ∃ f, (ownU a b c).length + 1 = f + 3 := ⟨(ownU a b c).length - 2, by omega⟩
    rw [hf]
    unfold ownU
    rw [declsL_semi h1 (by simp) (f + 2) (h2.ready _).1, declsL_semi h2 (by simp) (f + 1) r3, declsL_last h3 (by simp) f]
    rfl
  rw [then_of this]
  rfl
def langName : B := [108, 97, 110, 103]
def ownPg (u : B) : PT := .elem [112] [(idName, [113]), (styleName, u), (langName, [101, 110])] (.text 120 .nil) .nil
theorem ownU_val {a b c : B} (ha : TopW a) (hb : TopW b) (hc : TopW c) : ∀ x ∈ ownU a b c, isVal x = true := by
  have h1 : ∀ x ∈ declText sizeName a, isVal x = true := decl_val (by decide) ha.word
  have h2 : ∀ x ∈ declText colorName b, isVal x = true := decl_val (by decide) hb.word
  have h3 : ∀ x ∈ declText sizeName c, isVal x = true := decl_val (by decide) hc.word
  simp only [ownU, List.mem_append, List.mem_cons]
  rintro x (h | rfl | h | rfl | h)
  · exact h1 x h
  · decide
  · exact h2 x h
  · decide
  · exact h3 x h
theorem attr_own {u : B} (hu : ∀ c ∈ u, isVal c = true) : AttrsOk [(idName, [113]), (styleName, u), (langName, [101, 110])] := ⟨by
  simp only [List.mem_cons, List.not_mem_nil, or_false]
  rintro a (rfl | rfl | rfl)
  · exact show NameOk idName from ⟨by decide +kernel, by decide, by decide⟩
  · exact show NameOk styleName from ⟨by decide +kernel, by decide, by decide⟩
  · exact show NameOk langName from ⟨by decide +kernel, by decide, by decide⟩, by
  simp only [List.mem_cons, List.not_mem_nil, or_false]
  rintro a (rfl | rfl | rfl)
  · decide
  · exact hu
  · decide, by simp, by simp [idName, styleName, langName]⟩
theorem own_three {a b c : B} (ha : TopW a) (hb : TopW b) (hc : TopW c) {nm : B} {par : Int} {p : Nat} {x y z : Int} : ownOf ⟨nm, par, attrsAt p [(idName, [113]), (styleName, ownU a b c), (langName, [101, 110])], x, y, z⟩ = [⟨sizeName, a, false⟩, ⟨colorName, b, false⟩, ⟨sizeName, c, false⟩] := by
  have : ownDecls ⟨nm, par, attrsAt p [(idName, [113]), (styleName, ownU a b c), (langName, [101, 110])], x, y, z⟩ = .ok [⟨sizeName, a, false⟩, ⟨colorName, b, false⟩, ⟨sizeName, c, false⟩] := by
    unfold ownDecls
    have : (pGet (attrsAt p [(idName, [113]), (styleName, ownU a b c), (langName, [101, 110])]) styleName).1 = ownU a b c := by rfl
    simp only [this, ownU_read ha hb hc]
    rfl
  unfold ownOf
  rw [this]
theorem own_as {a b c : B} (ha : TopW a) (hb : TopW b) (hc : TopW c) : TopAs (ownPg (ownU a b c)) [] := by
  have hl : (ownU a b c).length ≤ 100 := by
    have := ha.len; have := hb.len; have := hc.len
    simp [ownU, declText, sizeName, colorName]; omega
  refine ⟨⟨by omega, name_p, by decide, attr_own (ownU_val ha hb hc), ⟨by decide, by decide, trivial⟩, trivial⟩, ⟨trivial, trivial⟩, ?_, by simp [ownPg, sizeP], rfl, by simp, by simp, ?_⟩
  · simp [ownPg, textP, openText, closeText, attrsText, attrText, styleName, idName, langName]; omega
  · unfold nodesBad
    rw [List.findSome?_eq_none_iff]
    intro x hx
    obtain ⟨n, hn, hx⟩ := List.mem_flatMap.1 hx
    simp only [ownPg, nodesP, List.nil_append, List.append_nil, List.mem_cons, List.not_mem_nil, or_false, List.mem_append] at hn
    subst hn
    simp only [attrsAt, List.mem_cons, List.not_mem_nil, or_false] at hx
    rcases hx with rfl | rfl | rfl
    · rfl
    · unfold attrBad
      rw [if_pos rfl]
      simp only [ownU_read ha hb hc]
      rfl
    · rfl
def ownWant (b c : B) : B := sPrint [⟨colorName, b, false⟩, ⟨sizeName, c, false⟩]
theorem top_own {a b c : B} (ha : TopW a) (hb : TopW b) (hc : TopW c) {T : PT} (hT : T = ownPg (ownU a b c)) :
    fRead (textP T) = .ok (nodesP (-1) 0 0 T, treeRules 0 T) ∧ ∀ st, IsStays (nodesP (-1) 0 0 T) (treeRules 0 T) st → fFold (textP T) (nodesP (-1) 0 0 T) (treeRules 0 T) st = .ok (textP (ownPg (ownWant b c))) ∧
      ∃ m qs, fRead (textP (ownPg (ownWant b c))) = .ok (m, qs) ∧ ∀ st', IsStays m qs st' → fFold (textP (ownPg (ownWant b c))) m qs st' = .ok (textP (ownPg (ownWant b c))) := by
  subst hT
  have H := own_as ha hb hc
  refine ⟨as_read H.read, fun st S => ?_⟩
  have hL : ∀ (j : Nat) (n : PNode), (nodesP (-1) 0 0 (ownPg (ownU a b c)))[j]? = some n →
      cLook (rcl (nodesP (-1) 0 0 (ownPg (ownU a b c))) (j : Int) [] [] ++ ownClaims (ownOf n)) = [⟨colorName, b, false⟩, ⟨sizeName, c, false⟩] ∧ n.attrs.length < 8 := by
    intro j n hn
    match j, hn with
    | 0, hn =>
      have := Option.some.inj hn
      subst this
      exact ⟨by rw [own_three ha hb hc]; rfl, by rw [attrsAt_len]; simp⟩
    | j + 1, hn => cases hn
  obtain ⟨tx, t', m, g1, g2, g3, g4, g5, g6⟩ := H.fold (by simp) (fun j n hn => by
    obtain ⟨e1, e2⟩ := hL j n hn
    exact ⟨by rw [e1]; simp, e2⟩) S
  have t0 : tx 0 = ownWant b c := by rw [g1 0 _ rfl, (hL 0 _ rfl).1]; rfl
  have hne : ownWant b c ≠ [] := by simp [ownWant, sPrint, printOne, colorName]
  have hf : foldP tx (goes st) 0 0 (ownPg (ownU a b c)) = ownPg (ownWant b c) := by
    have hs : setStyle [(idName, [113]), (styleName, ownU a b c), (langName, [101, 110])] (ownWant b c) = [(idName, [113]), (styleName, ownWant b c), (langName, [101, 110])] := by
      unfold setStyle
      rw [if_pos (by rfl), if_neg hne]
      rfl
    simp only [ownPg, foldP, t0, hs]
  rw [hf] at g2
  subst g2
  refine ⟨g3, ?_⟩
  obtain ⟨m', qs, F⟩ := fold_reads H.read S.len g3
  exact ⟨m', qs, as_read F.dst, fun st' S' => fold_twice F S S'⟩
def rsp (b : B) : In1 := rul [112] [tyP 112] (declText sizeName b) ⟨sizeName, b, false⟩
def mediaIts (a b c : B) : List It := [.plain (rco a), .plain (rsp b), .media wideW wideHead [rco c]]
def mediaT (a b c : B) : PT := .style [] (textIt (mediaIts a b c)) (.elem [112] [] (.text 120 .nil) .nil)
def mr (md : B) (d : PDecl) (lo hi : Int) : PRule := ⟨md, [tyP 112], [d], lo, hi⟩
end Go.Proofs.YtplbdlgmjehckacGreatDoor

