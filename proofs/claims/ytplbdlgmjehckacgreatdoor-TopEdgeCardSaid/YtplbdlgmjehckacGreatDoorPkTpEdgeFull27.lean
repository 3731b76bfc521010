/-
 Lemmas for the claims of this seat: the program's functions walked, and plain laws. In this order: TpLaws2.
-/
import Derived.Test.YtplbdlgmjehckacGreatDoorPk8
namespace Go.Proofs.YtplbdlgmjehckacGreatDoor
set_option linter.unusedVariables false
set_option linter.unusedSimpArgs false
def strongT (x : In1) (u : B) : PT := .style [] (textIn [x]) (.elem [112] [(styleName, u)] (.text 120 .nil) .nil)
theorem decl_val {nm w : B} (h1 : ∀ c ∈ nm, isVal c = true) (hw : WordOk w) : ∀ c ∈ declText nm w, isVal c = true := by
 simp only [declText, List.mem_append]
 rintro x (h | h | h)
 ·exact h1 x h
 ·revert x; decide
 ·exact word_val (hw.2 x h)
def strongB (nm w : B) : B := nm ++ [58, 32] ++ w ++ ([32, 33] ++ importantWord)
def edgeT (xs : List In1) : PT := .style [] (textIn xs) (.elem [112] [] (.text 120 .nil) .nil)
def redge (a : B) : In1 := rul [112] [tyP 112] (declText edgeName a) ⟨edgeName, a, false⟩
def rleft (b : B) : In1 := rul [112] [tyP 112] (declText edgeLeft b) ⟨edgeLeft, b, false⟩
def eXs (a b : B) (o : Bool) : List In1 := if o then [redge a, rleft b] else [rleft b, redge a]
def eRs (a b : B) (o : Bool) : List PRule := if o then [sr [tyP 112] ⟨edgeName, a, false⟩, sr [tyP 112] ⟨edgeLeft, b, false⟩] else [sr [tyP 112] ⟨edgeLeft, b, false⟩, sr [tyP 112] ⟨edgeName, a, false⟩]
def eLook (a b : B) (o : Bool) : List PDecl := [⟨edgeBottom, a, false⟩, ⟨edgeLeft, if o then b else a, false⟩, ⟨edgeRight, a, false⟩, ⟨edgeTop, a, false⟩]
theorem plain_edge {a : B} (h : WordOk a) : pAll [⟨edgeName, a, false⟩] = some (edges a a a a false) := by
 have : pExpand ⟨edgeName, a, false⟩ = some (edges a a a a false) := by
  unfold pExpand
  rw [if_pos rfl]
  simp only [splitB_last (word_ne32 h)]
 simp only [pAll, this, List.append_nil]
theorem edge_as {a b : B} (ha : TopW a) (hb : TopW b) (o : Bool) : TopAs (edgeT (eXs a b o)) (eRs a b o) := by
 have hmem : ∀ x ∈ eXs a b o, x = redge a ∨ x = rleft b := by
  intro x hx
  cases o <;> simp only [eXs, Bool.false_eq_true, if_false, if_true, List.mem_cons, List.not_mem_nil, or_false] at hx <;> rcases hx with rfl | rfl <;> simp
 have hwf : ∀ x ∈ eXs a b o, x.wf := by
  intro x hx
  rcases hmem x hx with rfl | rfl
  ·exact rul_wf selT_p (declT_plain name_edge ha)
  ·exact rul_wf selT_p (declT_plain name_left hb)
 have hl : (textIn (eXs a b o)).length ≤ 120 := by
  have := ha.len; have := hb.len
  cases o <;> simp [eXs, textIn, redge, rleft, rul, In1.text, ruleText, declText, edgeName, edgeLeft] <;> omega
 have hsp := sheet_in hwf (by omega) (by cases o <;> simp [eXs, rulesIn, redge, rleft, rul])
 have hne : ∀ c' ∈ textIn (eXs a b o), c' ≠ 60 := textIn_ne60 fun x hx => by
  rcases hmem x hx with rfl | rfl
  ·exact rul_ne60 (by decide) (declText_ne60 (by decide) ha.word)
  ·exact rul_ne60 (by decide) (declText_ne60 (by decide) hb.word)
 refine ⟨?_, ⟨⟨_, hsp⟩, trivial, trivial⟩, ?_, by simp [edgeT, sizeP], ?_, by cases o <;> simp [eRs], ?_, ?_⟩
 ·exact ⟨by omega, attrNone, no_tag hne, by omega, name_p, by decide, attrNone, ⟨by decide, by decide, trivial⟩, trivial⟩
 ·simp [edgeT, textP, openText, closeText, attrsText, attrText, styleName]; omega
 ·show (treeRules 0 (.style [] (textIn (eXs a b o)) _)).map stripR = _
  simp only [treeRules, rulesOf_ok hsp, List.append_nil]
  cases o <;> rfl
 ·have h1 : pAll [⟨edgeName, a, false⟩] ≠ none := by rw [plain_edge ha.word]; simp
  have h2 : pAll [⟨edgeLeft, b, false⟩] ≠ none := pall_one (show edgeLeft ≠ edgeName by decide)
  cases o <;> simp only [eRs, Bool.false_eq_true, if_false, if_true, List.mem_cons, List.not_mem_nil, or_false] <;> rintro r (rfl | rfl) <;> assumption
 ·refine own_none fun n hn x hx => ?_
  simp only [edgeT, nodesP, List.nil_append, List.append_nil, List.mem_cons, List.not_mem_nil, or_false, List.mem_append] at hn
  rcases hn with rfl | rfl <;> cases hx
theorem plainOf_edge {a : B} (h : WordOk a) : plainOf (sr [tyP 112] ⟨edgeName, a, false⟩) = edges a a a a false := by
 unfold plainOf sr
 rw [plain_edge h]; rfl
theorem edge_looks {a b : B} (ha : TopW a) (hb : TopW b) (o : Bool) : ∀ (j : Nat) (n : PNode), (nodesP (-1) 0 0 (edgeT (eXs a b o)))[j]? = some n →
  cLook (rcl (nodesP (-1) 0 0 (edgeT (eXs a b o))) (j : Int) [] (eRs a b o) ++ ownClaims (ownOf n)) = (if j = 0 then [] else eLook a b o) ∧ n.attrs.length < 8 := by
 intro j n hn
 have hp := plainOf_edge ha.word
 cases o <;> match j, hn with
  | 0, hn => have := Option.some.inj hn; subst this; exact ⟨by rfl, by rw [attrsAt_len]; decide⟩
  | 1, hn =>
   have := Option.some.inj hn
   subst this
   refine ⟨?_, by rw [attrsAt_len]; decide⟩
   unfold rcl eRs
   simp only [Bool.false_eq_true, if_false, if_true, List.flatMap_cons, List.flatMap_nil]
   rw [hp]
   rfl
  | j + 2, hn => cases hn
theorem top_edge {a b : B} (ha : TopW a) (hb : TopW b) (o : Bool) {T : PT} (hT : T = edgeT (eXs a b o)) :
  fRead (textP T) = .ok (nodesP (-1) 0 0 T, treeRules 0 T) ∧ ∀ st, IsStays (nodesP (-1) 0 0 T) (treeRules 0 T) st → ∃ t m n1, fFold (textP T) (nodesP (-1) 0 0 T) (treeRules 0 T) st = .ok t ∧ pParse t = .ok m ∧ m.length = 2 ∧ m[1]? = some n1 ∧ (pGet n1.attrs styleName).1 = sPrint (eLook a b o) := by
 subst hT
 have H := edge_as ha hb o
 refine ⟨as_read H.read, fun st S => ?_⟩
 have hL := edge_looks ha hb o
 obtain ⟨tx, t', m, g1, g2, g3, g4, g5, g6⟩ := H.fold (by cases o <;> simp [eRs, sr]) (fun j n hn => by
  obtain ⟨e1, e2⟩ := hL j n hn
  refine ⟨?_, e2⟩
  rw [e1]
  split <;> simp [eLook]) S
 obtain ⟨n1, k1, k1'⟩ := g6 1 _ rfl
 exact ⟨t', m, n1, g3, g4, g5, k1, by rw [k1', g1 1 _ rfl, (hL 1 _ rfl).1]; rfl⟩
end Go.Proofs.YtplbdlgmjehckacGreatDoor

