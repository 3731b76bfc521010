/-
 Lemmas for the claims of this seat: the program's functions walked, and plain laws. In this order: TpLaws2 FoRest TpLaws3.
-/
import Derived.Test.YtplbdlgmjehckacGreatDoorPk8
namespace Go.Proofs.YtplbdlgmjehckacGreatDoor
set_option linter.unusedVariables false
set_option linter.unusedSimpArgs false
def strongT (x : In1) (u : B) : PT := .style [] (textIn [x]) (.elem [112] [(styleName, u)] (.text 120 .nil) .nil)
theorem decl_val {nm w : B} (h1 : ∀ c ∈ nm, isVal c = true) (hw : WordOk w) : ∀ c ∈ declText nm w, isVal c = true := by
 simp only [declText, List.mem_append]
 rintro x (h | h | h)
 ·exact h1 x h
 ·revert x; decide
 ·exact word_val (hw.2 x h)
def strongB (nm w : B) : B := nm ++ [58, 32] ++ w ++ ([32, 33] ++ importantWord)
def edgeT (xs : List In1) : PT := .style [] (textIn xs) (.elem [112] [] (.text 120 .nil) .nil)
def redge (a : B) : In1 := rul [112] [tyP 112] (declText edgeName a) ⟨edgeName, a, false⟩
def rleft (b : B) : In1 := rul [112] [tyP 112] (declText edgeLeft b) ⟨edgeLeft, b, false⟩
def eXs (a b : B) (o : Bool) : List In1 := if o then [redge a, rleft b] else [rleft b, redge a]
def eRs (a b : B) (o : Bool) : List PRule := if o then [sr [tyP 112] ⟨edgeName, a, false⟩, sr [tyP 112] ⟨edgeLeft, b, false⟩] else [sr [tyP 112] ⟨edgeLeft, b, false⟩, sr [tyP 112] ⟨edgeName, a, false⟩]
def eLook (a b : B) (o : Bool) : List PDecl := [⟨edgeBottom, a, false⟩, ⟨edgeLeft, if o then b else a, false⟩, ⟨edgeRight, a, false⟩, ⟨edgeTop, a, false⟩]
theorem plain_edge {a : B} (h : WordOk a) : pAll [⟨edgeName, a, false⟩] = some (edges a a a a false) := by
 have : pExpand ⟨edgeName, a, false⟩ = some (edges a a a a false) := by
  unfold pExpand
  rw [if_pos rfl]
  simp only [splitB_last (word_ne32 h)]
 simp only [pAll, this, List.append_nil]
theorem edge_as {a b : B} (ha : TopW a) (hb : TopW b) (o : Bool) : TopAs (edgeT (eXs a b o)) (eRs a b o) := by
 have hmem : ∀ x ∈ eXs a b o, x = redge a ∨ x = rleft b := by
  intro x hx
  cases o <;> simp only [eXs, Bool.false_eq_true, if_false, if_true, List.mem_cons, List.not_mem_nil, or_false] at hx <;> rcases hx with rfl | rfl <;> simp
 have hwf : ∀ x ∈ eXs a b o, x.wf := by
  intro x hx
  rcases hmem x hx with rfl | rfl
  ·exact rul_wf selT_p (declT_plain name_edge ha)
  ·exact rul_wf selT_p (declT_plain name_left hb)
 have hl : (textIn (eXs a b o)).length ≤ 120 := by
  have := ha.len; have := hb.len
  cases o <;> simp [eXs, textIn, redge, rleft, rul, In1.text, ruleText, declText, edgeName, edgeLeft] <;> omega
 have hsp := sheet_in hwf (by omega) (by cases o <;> simp [eXs, rulesIn, redge, rleft, rul])
 have hne : ∀ c' ∈ textIn (eXs a b o), c' ≠ 60 := textIn_ne60 fun x hx => by
  rcases hmem x hx with rfl | rfl
  ·exact rul_ne60 (by decide) (declText_ne60 (by decide) ha.word)
  ·exact rul_ne60 (by decide) (declText_ne60 (by decide) hb.word)
 refine ⟨?_, ⟨⟨_, hsp⟩, trivial, trivial⟩, ?_, by simp [edgeT, sizeP], ?_, by cases o <;> simp [eRs], ?_, ?_⟩
 ·exact ⟨by omega, attrNone, no_tag hne, by omega, name_p, by decide, attrNone, ⟨by decide, by decide, trivial⟩, trivial⟩
 ·simp [edgeT, textP, openText, closeText, attrsText, attrText, styleName]; omega
 ·show (treeRules 0 (.style [] (textIn (eXs a b o)) _)).map stripR = _
  simp only [treeRules, rulesOf_ok hsp, List.append_nil]
  cases o <;> rfl
 ·have h1 : pAll [⟨edgeName, a, false⟩] ≠ none := by rw [plain_edge ha.word]; simp
  have h2 : pAll [⟨edgeLeft, b, false⟩] ≠ none := pall_one (show edgeLeft ≠ edgeName by decide)
  cases o <;> simp only [eRs, Bool.false_eq_true, if_false, if_true, List.mem_cons, List.not_mem_nil, or_false] <;> rintro r (rfl | rfl) <;> assumption
 ·refine own_none fun n hn x hx => ?_
  simp only [edgeT, nodesP, List.nil_append, List.append_nil, List.mem_cons, List.not_mem_nil, or_false, List.mem_append] at hn
  rcases hn with rfl | rfl <;> cases hx
theorem plainOf_edge {a : B} (h : WordOk a) : plainOf (sr [tyP 112] ⟨edgeName, a, false⟩) = edges a a a a false := by
 unfold plainOf sr
 rw [plain_edge h]; rfl
theorem edge_looks {a b : B} (ha : TopW a) (hb : TopW b) (o : Bool) : ∀ (j : Nat) (n : PNode), (nodesP (-1) 0 0 (edgeT (eXs a b o)))[j]? = some n →
  cLook (rcl (nodesP (-1) 0 0 (edgeT (eXs a b o))) (j : Int) [] (eRs a b o) ++ ownClaims (ownOf n)) = (if j = 0 then [] else eLook a b o) ∧ n.attrs.length < 8 := by
 intro j n hn
 have hp := plainOf_edge ha.word
 cases o <;> match j, hn with
  | 0, hn => have := Option.some.inj hn; subst this; exact ⟨by rfl, by rw [attrsAt_len]; decide⟩
  | 1, hn =>
   have := Option.some.inj hn
   subst this
   refine ⟨?_, by rw [attrsAt_len]; decide⟩
   unfold rcl eRs
   simp only [Bool.false_eq_true, if_false, if_true, List.flatMap_cons, List.flatMap_nil]
   rw [hp]
   rfl
  | j + 2, hn => cases hn
theorem top_edge {a b : B} (ha : TopW a) (hb : TopW b) (o : Bool) {T : PT} (hT : T = edgeT (eXs a b o)) :
  fRead (textP T) = .ok (nodesP (-1) 0 0 T, treeRules 0 T) ∧ ∀ st, IsStays (nodesP (-1) 0 0 T) (treeRules 0 T) st → ∃ t m n1, fFold (textP T) (nodesP (-1) 0 0 T) (treeRules 0 T) st = .ok t ∧ pParse t = .ok m ∧ m.length = 2 ∧ m[1]? = some n1 ∧ (pGet n1.attrs styleName).1 = sPrint (eLook a b o) := by
 subst hT
 have H := edge_as ha hb o
 refine ⟨as_read H.read, fun st S => ?_⟩
 have hL := edge_looks ha hb o
 obtain ⟨tx, t', m, g1, g2, g3, g4, g5, g6⟩ := H.fold (by cases o <;> simp [eRs, sr]) (fun j n hn => by
  obtain ⟨e1, e2⟩ := hL j n hn
  refine ⟨?_, e2⟩
  rw [e1]
  split <;> simp [eLook]) S
 obtain ⟨n1, k1, k1'⟩ := g6 1 _ rfl
 exact ⟨t', m, n1, g3, g4, g5, k1, by rw [k1', g1 1 _ rfl, (hL 1 _ rfl).1]; rfl⟩
def behindA : Nat → List PAttr → Nat
 | p, [] => p
 | _, a :: al => behindA a.hi.toNat al
def restTo (n : PNode) : Nat := if n.name = styleName then n.inT.toNat else behindA n.nameEnd.toNat n.attrs
def restF (s : B) : Nat → List PNode → B
 | a, [] => s.drop a
 | a, n :: ns => sub s a n.nameEnd.toNat ++ restF s (restTo n) ns
def runsA (s : B) : Nat → List PAttr → Prop
 | p, [] => s[p]? = some 62
 | p, a :: al => a.lo = (p : Int) ∧ s[p]? = some 32 ∧ (p : Int) < a.hi ∧ runsA s a.hi.toNat al
def restOk (s : B) : Nat → List PNode → Prop
 | a, [] => a ≤ s.length
 | a, n :: ns => (a : Int) ≤ n.nameEnd ∧ n.nameEnd.toNat ≤ s.length ∧ runsA s n.nameEnd.toNat n.attrs ∧ 0 ≤ n.inT ∧ restOk s (restTo n) ns
def restP : PT → B
 | .nil => []
 | .text c n => c :: restP n
 | .note x n => noteBegin ++ (x ++ (noteEnd ++ restP n))
 | .elem nm al kids n => [60] ++ (nm ++ ([62] ++ (restP kids ++ (closeText nm ++ restP n))))
 | .style al inner n => [60] ++ (styleName ++ (closeText styleName ++ restP n))
theorem restP_fold (tx : Nat → B) (g : Nat → Bool) : ∀ (T : PT) (c i : Nat), restP (foldP tx g c i T) = restP T
 | .nil, _, _ => rfl
 | .text _ n, _, _ => by simp only [foldP, restP, restP_fold tx g n]
 | .note _ n, _, _ => by simp only [foldP, restP, restP_fold tx g n]
 | .elem _ _ kids n, _, _ => by simp only [foldP, restP, restP_fold tx g n, restP_fold tx g kids]
 | .style _ _ n, _, _ => by simp only [foldP, restP, restP_fold tx g n]
theorem sub_at {s p w q : B} {a b : Nat} (hs : s = p ++ (w ++ q)) (ha : a = p.length) (hb : b = p.length + w.length) : sub s a b = w := by
 subst ha; subst hb; rw [hs]; exact sub_mid p w q
theorem restOk.early {s : B} {a b : Nat} {ns : List PNode} (h : restOk s b ns) (hab : a ≤ b) : restOk s a ns := by
 cases ns with
 | nil => exact Nat.le_trans hab h
 | cons n ns => obtain ⟨h1, h2⟩ := h; exact ⟨by omega, h2⟩
theorem restOk.from {s : B} {a b : Nat} {ns : List PNode} (h : restOk s b ns) (hab : a ≤ b) : restF s a ns = sub s a b ++ restF s b ns := by
 cases ns with
 | nil => simp only [restF]; exact (sub_to hab).symm
 | cons n ns =>
  obtain ⟨h1, h2, _⟩ := h
  simp only [restF]
  rw [← List.append_assoc, sub_append s hab (by omega)]
theorem behind_at : ∀ (al : List (B × B)) (p : Nat), behindA p (attrsAt p al) = p + (attrsText al).length
 | [], p => by simp [attrsAt, behindA, attrsText]
 | a :: al, p => by
  simp only [attrsAt, behindA, attrsText, List.length_append]
  rw [Int.toNat_natCast, behind_at al]; omega
theorem runs_at {s : B} : ∀ (al : List (B × B)) (p q : B), s = p ++ (attrsText al ++ (62 :: q)) → runsA s p.length (attrsAt p.length al)
 | [], p, q, h => by
  simp only [attrsAt, runsA, attrsText, List.nil_append] at h ⊢
  rw [h, List.getElem?_append_right (Nat.le_refl _)]; simp
 | a :: al, p, q, h => by
  have hl : p.length + (attrText a).length = (p ++ attrText a).length := by simp
  simp only [attrsAt, runsA]
  refine ⟨trivial, ?_, ?_, ?_⟩
  ·rw [h, List.getElem?_append_right (Nat.le_refl _)]; simp [attrsText, attrText]
  ·have := attrText_pos a; omega
  ·rw [Int.toNat_natCast, hl]
   exact runs_at al (p ++ attrText a) q (by rw [h]; simp [attrsText])
theorem rest_tree {s : B} : ∀ (T : PT) (d c : Nat) (par : Int) (p q : B) (ms : List PNode), s = p ++ (textP T ++ q) → wfP d T → restOk s (p ++ textP T).length ms →
  restOk s p.length (nodesP par c p.length T ++ ms) ∧ restF s p.length (nodesP par c p.length T ++ ms) = restP T ++ restF s (p ++ textP T).length ms
 | .nil, d, c, par, p, q, ms, hs, hw, hm => by
  simp only [textP, List.append_nil] at hm ⊢
  simp only [nodesP, List.nil_append, restP]
  exact ⟨hm, trivial⟩
 | .text x n, d, c, par, p, q, ms, hs, hw, hm => by
  have hl : p.length + 1 = (p ++ [x]).length := by simp
  have he : (p ++ textP (.text x n)).length = ((p ++ [x]) ++ textP n).length := by simp [textP]
  rw [he] at hm ⊢
  obtain ⟨h1, h2⟩ := rest_tree n d c par (p ++ [x]) q ms (by rw [hs]; simp [textP]) hw.2.2 hm
  rw [nodesP, hl]
  refine ⟨h1.early (by simp), ?_⟩
  rw [h1.from (by simp), h2]
  have : sub s p.length (p ++ [x]).length = [x] := sub_at (p := p) (q := textP n ++ q) (by rw [hs]; simp [textP]) rfl (List.length_append ..)
  rw [this]; rfl
 | .note x n, d, c, par, p, q, ms, hs, hw, hm => by
  have hl : p.length + (4 + x.length + 3) = (p ++ (noteBegin ++ (x ++ noteEnd))).length := by simp [noteBegin, noteEnd]; omega
  have he : (p ++ textP (.note x n)).length = ((p ++ (noteBegin ++ (x ++ noteEnd))) ++ textP n).length := by simp [textP]
  rw [he] at hm ⊢
  obtain ⟨h1, h2⟩ := rest_tree n d c par (p ++ (noteBegin ++ (x ++ noteEnd))) q ms (by rw [hs]; simp [textP]) hw.2 hm
  rw [nodesP, hl]
  refine ⟨h1.early (by simp), ?_⟩
  rw [h1.from (by simp), h2]
  have : sub s p.length (p ++ (noteBegin ++ (x ++ noteEnd))).length = noteBegin ++ (x ++ noteEnd) := sub_at (p := p) (q := textP n ++ q) (by rw [hs]; simp [textP]) rfl (List.length_append ..)
  rw [this]; simp [restP]
 | .elem nm al kids n, d, c, par, p, q, ms, hs, hw, hm => by
  obtain ⟨_, _, hns, _, hk, hn⟩ := hw
  have l1 : p.length + (openText nm al).length = (p ++ openText nm al).length := by simp
  have l2 : p.length + (openText nm al).length + (textP kids).length + (closeText nm).length = (p ++ openText nm al ++ textP kids ++ closeText nm).length := by simp [Nat.add_assoc]
  have l0 : p.length + 1 + nm.length = (p ++ ([60] ++ nm)).length := by simp only [List.length_append, List.length_cons, List.length_nil]; omega
  have he : (p ++ textP (.elem nm al kids n)).length = ((p ++ openText nm al ++ textP kids ++ closeText nm) ++ textP n).length := by simp [textP]
  rw [he] at hm ⊢
  obtain ⟨n1, n2⟩ := rest_tree n d (c + 1 + sizeP kids) par (p ++ openText nm al ++ textP kids ++ closeText nm) q ms (by rw [hs]; simp [textP]) hn hm
  obtain ⟨k1, k2⟩ := rest_tree kids (d + 1) (c + 1) (c : Int) (p ++ openText nm al) (closeText nm ++ (textP n ++ q)) (nodesP par (c + 1 + sizeP kids) (p ++ openText nm al ++ textP kids ++ closeText nm).length n ++ ms) (by rw [hs]; simp [textP]) hk
   (n1.early (by simp))
  rw [nodesP, l2, l1, List.cons_append, List.append_assoc]
  have hb : restTo ⟨nm, par, attrsAt (p.length + 1 + nm.length) al, ((p.length + 1 + nm.length : Nat) : Int), 0, 0⟩ + 1 = (p ++ openText nm al).length := by
   unfold restTo
   simp only [hns, if_false, Int.toNat_natCast]
   rw [behind_at]; simp [openText]; omega
  have hr : runsA s (p.length + 1 + nm.length) (attrsAt (p.length + 1 + nm.length) al) := by
   rw [l0]
   exact runs_at al (p ++ ([60] ++ nm)) (textP kids ++ (closeText nm ++ (textP n ++ q))) (by rw [hs]; simp [textP, openText])
  have hle : p.length + 1 + nm.length ≤ s.length := by rw [hs]; simp [textP, openText]; omega
  refine ⟨⟨by simp only []; omega, hle, hr, Int.le_refl _, k1.early (by omega)⟩, ?_⟩
  simp only [restF]
  rw [k1.from (by omega : _ ≤ (p ++ openText nm al).length), k2, n1.from (show (p ++ openText nm al ++ textP kids).length ≤ _ by simp), n2]
  have e1 : sub s p.length (p.length + 1 + nm.length) = [60] ++ nm := sub_at (p := p) (q := attrsText al ++ (62 :: (textP kids ++ (closeText nm ++ (textP n ++ q))))) (by rw [hs]; simp [textP, openText]) rfl (by simp only [List.length_append, List.length_cons, List.length_nil]; omega)
  have hw3 : (p ++ openText nm al).length = (p ++ ([60] ++ (nm ++ attrsText al))).length + 1 := by simp only [openText, List.length_append, List.length_cons, List.length_nil]; omega
  have e2 : sub s (restTo ⟨nm, par, attrsAt (p.length + 1 + nm.length) al, ((p.length + 1 + nm.length : Nat) : Int), 0, 0⟩) (p ++ openText nm al).length = [62] :=
   sub_at (p := p ++ ([60] ++ (nm ++ attrsText al))) (q := textP kids ++ (closeText nm ++ (textP n ++ q))) (by rw [hs]; simp [textP, openText]) (by omega) (by rw [hw3, List.length_cons, List.length_nil])
  have e3 : sub s (p ++ openText nm al ++ textP kids).length (p ++ openText nm al ++ textP kids ++ closeText nm).length = closeText nm :=
   sub_at (p := p ++ openText nm al ++ textP kids) (q := textP n ++ q) (by rw [hs]; simp [textP]) rfl (List.length_append ..)
  simp only [Int.toNat_natCast]
  rw [e1, e2, e3]; simp [restP]
 | .style al inner n, d, c, par, p, q, ms, hs, hw, hm => by
  obtain ⟨_, _, _, hn⟩ := hw
  have l1 : p.length + (openText styleName al).length = (p ++ openText styleName al).length := by simp
  have l2 : p.length + (openText styleName al).length + inner.length + (closeText styleName).length = (p ++ openText styleName al ++ inner ++ closeText styleName).length := by simp [Nat.add_assoc]
  have l3 : p.length + (openText styleName al).length + inner.length = (p ++ openText styleName al ++ inner).length := by simp [Nat.add_assoc]
  have l0 : p.length + 1 + styleName.length = (p ++ ([60] ++ styleName)).length := by simp only [List.length_append, List.length_cons, List.length_nil]; omega
  have he : (p ++ textP (.style al inner n)).length = ((p ++ openText styleName al ++ inner ++ closeText styleName) ++ textP n).length := by simp [textP]
  rw [he] at hm ⊢
  obtain ⟨n1, n2⟩ := rest_tree n d (c + 1) par (p ++ openText styleName al ++ inner ++ closeText styleName) q ms (by rw [hs]; simp [textP]) hn hm
  rw [nodesP, l2, List.cons_append]
  have hr : runsA s (p.length + 1 + styleName.length) (attrsAt (p.length + 1 + styleName.length) al) := by
   rw [l0]
   exact runs_at al (p ++ ([60] ++ styleName)) (inner ++ (closeText styleName ++ (textP n ++ q))) (by rw [hs]; simp [textP, openText])
  have hle : p.length + 1 + styleName.length ≤ s.length := by rw [hs]; simp [textP, openText]; omega
  have hto : restTo ⟨styleName, par, attrsAt (p.length + 1 + styleName.length) al, ((p.length + 1 + styleName.length : Nat) : Int), ((p.length + (openText styleName al).length : Nat) : Int), ((p.length + (openText styleName al).length + inner.length : Nat) : Int)⟩ = (p ++ openText styleName al ++ inner).length := by
   unfold restTo
   rw [if_pos rfl, ← l3]; rfl
  refine ⟨⟨by simp only []; omega, hle, hr, Int.natCast_nonneg _, by rw [hto]; exact n1.early (by simp)⟩, ?_⟩
  simp only [restF]
  rw [hto, n1.from (show (p ++ openText styleName al ++ inner).length ≤ _ by simp), n2]
  have e1 : sub s p.length (p.length + 1 + styleName.length) = [60] ++ styleName := sub_at (p := p) (q := attrsText al ++ (62 :: (inner ++ (closeText styleName ++ (textP n ++ q))))) (by rw [hs]; simp [textP, openText]) rfl (by simp only [List.length_append, List.length_cons, List.length_nil]; omega)
  have e3 : sub s (p ++ openText styleName al ++ inner).length (p ++ openText styleName al ++ inner ++ closeText styleName).length = closeText styleName :=
   sub_at (p := p ++ openText styleName al ++ inner) (q := textP n ++ q) (by rw [hs]; simp [textP]) rfl (List.length_append ..)
  simp only [Int.toNat_natCast]
  rw [e1, e3]; simp [restP]
theorem rest_page {T : PT} (hw : wfP 1 T) : restOk (textP T) 0 (nodesP (-1) 0 0 T) ∧ restF (textP T) 0 (nodesP (-1) 0 0 T) = restP T := by
 obtain ⟨h1, h2⟩ := rest_tree (s := textP T) T 1 0 (-1) [] [] [] (by simp) hw (by simp [restOk])
 simp only [List.length_nil, List.append_nil, List.nil_append] at h1 h2
 refine ⟨h1, ?_⟩
 rw [h2]; simp [restF]
theorem fold_rest {s t : B} {l m : List PNode} {rules qs : List PRule} {st : List Bool} {T : PT} (F : FoldAs s t l m rules qs st T) : restOk s 0 l ∧ restOk t 0 m ∧ restF t 0 m = restF s 0 l := by
 have h1 := rest_page F.src.wf
 have h2 := rest_page F.dst.wf
 rw [← F.src.text, ← F.src.nodes] at h1
 rw [← F.dst.text, ← F.dst.nodes] at h2
 exact ⟨h1.1, h2.1, by rw [h1.2, h2.2, restP_fold]⟩
theorem splice_all {xs : List In1} (hw : ∀ x ∈ xs, x.wf) (g : Nat → Bool) (i : Nat) : splice (fun _ => [32]) g (textIn xs) i 0 (rulesIn [] 0 xs) = textIn (cutIn (fun _ => [32]) g i xs) := by
 have := splice_in (fun _ => [32]) g (textIn xs) [] [] xs i [] [] hw (by simp) (by simp [Placed])
 simp only [List.length_nil, List.append_nil, Nat.zero_add, splice] at this
 rw [this]; simp
def rco (a : B) : In1 := rul [112] [tyP 112] (declText colorName a) ⟨colorName, a, false⟩
def rsz (b : B) : In1 := rul [98] [tyP 98] (declText sizeName b) ⟨sizeName, b, false⟩
def whereP (n : PT) : PT := .elem [112] [] (.text 120 (.elem [98] [] (.text 121 .nil) .nil)) n
def whereT (a b : B) : Nat → PT
 | 0 => .style [] (textIn [rco a, rsz b]) (whereP .nil)
 | 1 => whereP (.style [] (textIn [rco a, rsz b]) .nil)
 | _ => .style [] (textIn [rco a]) (whereP (.style [] (textIn [rsz b]) .nil))
def wantP (a b : B) (n : PT) : PT := .elem [112] [(styleName, declTextB colorName a)] (.text 120 (.elem [98] [(styleName, declTextB sizeName b)] (.text 121 .nil) .nil)) n
def wantT (a b : B) : Nat → PT
 | 0 => .style [] [32, 32] (wantP a b .nil)
 | 1 => wantP a b (.style [] [32, 32] .nil)
 | _ => .style [] [32] (wantP a b (.style [] [32] .nil))
def wRules (a b : B) : List PRule := [sr [tyP 112] ⟨colorName, a, false⟩, sr [tyP 98] ⟨sizeName, b, false⟩]
theorem three {Q : Nat → Prop} (h0 : Q 0) (h1 : Q 1) (h2 : Q 2) : ∀ o ≤ 2, Q o := by
 intro o ho
 match o, ho with
 | 0, _ => exact h0
 | 1, _ => exact h1
 | 2, _ => exact h2
theorem where_sheets {a b : B} (ha : TopW a) (hb : TopW b) : (∀ x ∈ [rco a, rsz b], x.wf) ∧ (∀ c ∈ textIn [rco a, rsz b], c ≠ 60) ∧ (∀ c ∈ textIn [rco a], c ≠ 60) ∧ (∀ c ∈ textIn [rsz b], c ≠ 60) ∧ (textIn [rco a]).length ≤ 40 ∧ (textIn [rsz b]).length ≤ 40 ∧ (textIn [rco a, rsz b]).length ≤ 80 := by
 have h1 : ∀ c ∈ (rco a).text, c ≠ 60 := rul_ne60 (by decide) (declText_ne60 (by decide) ha.word)
 have h2 : ∀ c ∈ (rsz b).text, c ≠ 60 := rul_ne60 (by decide) (declText_ne60 (by decide) hb.word)
 have l1 : (rco a).text.length ≤ 40 := by have := ha.len; simp [rco, rul, In1.text, ruleText, declText, colorName]; omega
 have l2 : (rsz b).text.length ≤ 40 := by have := hb.len; simp [rsz, rul, In1.text, ruleText, declText, sizeName]; omega
 refine ⟨?_, textIn_ne60 ?_, textIn_ne60 ?_, textIn_ne60 ?_, ?_, ?_, ?_⟩
 ·simp only [List.mem_cons, List.not_mem_nil, or_false]
  rintro x (rfl | rfl)
  ·exact rul_wf selT_p (declT_plain name_color ha)
  ·exact rul_wf selT_b (declT_plain name_size hb)
 ·simp only [List.mem_cons, List.not_mem_nil, or_false]
  rintro x (rfl | rfl) <;> assumption
 ·simp only [List.mem_cons, List.not_mem_nil, or_false]
  rintro x rfl; assumption
 ·simp only [List.mem_cons, List.not_mem_nil, or_false]
  rintro x rfl; assumption
 ·simp only [textIn, List.length_append, List.length_nil]; omega
 ·simp only [textIn, List.length_append, List.length_nil]; omega
 ·simp only [textIn, List.length_append, List.length_nil]; omega
theorem where_as {a b : B} (ha : TopW a) (hb : TopW b) : ∀ o ≤ 2, TopAs (whereT a b o) (wRules a b) := by
 obtain ⟨hw, n2, n0, n1, l0, l1, l2⟩ := where_sheets ha hb
 have hw0 : ∀ x ∈ [rco a], x.wf := fun x hx => hw x (by simp at hx; simp [hx])
 have hw1 : ∀ x ∈ [rsz b], x.wf := fun x hx => hw x (by simp at hx; simp [hx])
 have s2 := sheet_in hw (by omega) (by simp [rulesIn, rco, rsz, rul])
 have s0 := sheet_in hw0 (by omega) (by simp [rulesIn, rco, rsz, rul])
 have s1 := sheet_in hw1 (by omega) (by simp [rulesIn, rco, rsz, rul])
 have hwp : ∀ n, wfP 1 n → wfP 1 (whereP n) := fun n hn => ⟨by omega, name_p, by decide, attrNone, ⟨by decide, by decide, by omega, name_b, by decide, attrNone, ⟨by decide, by decide, trivial⟩, trivial⟩, hn⟩
 have hpl : ∀ r ∈ wRules a b, pAll r.decls ≠ none := by
  simp only [wRules, List.mem_cons, List.not_mem_nil, or_false]
  rintro r (rfl | rfl)
  ·exact pall_one (show colorName ≠ edgeName by decide)
  ·exact pall_one (show sizeName ≠ edgeName by decide)
 apply three
 ·refine ⟨⟨by omega, attrNone, no_tag n2, hwp _ trivial⟩, ⟨⟨_, s2⟩, ⟨trivial, trivial⟩, trivial⟩, ?_, by simp [whereT, whereP, sizeP], ?_, by simp [wRules], hpl, own_none fun n hn x hx => ?_⟩
  ·simp only [whereT, whereP, textP, openText, closeText, attrsText, attrText, styleName, List.length_append, List.length_cons, List.length_nil]; omega
  ·simp only [whereT, whereP, treeRules, rulesOf_ok s2, List.append_nil, List.nil_append]; rfl
  ·simp only [whereT, whereP, nodesP, List.nil_append, List.append_nil, List.mem_cons, List.not_mem_nil, or_false, List.mem_append, List.cons_append] at hn
   rcases hn with rfl | rfl | rfl <;> cases hx
 ·refine ⟨hwp _ ⟨by omega, attrNone, no_tag n2, trivial⟩, ⟨⟨trivial, trivial⟩, ⟨_, s2⟩, trivial⟩, ?_, by simp [whereT, whereP, sizeP], ?_, by simp [wRules], hpl, own_none fun n hn x hx => ?_⟩
  ·simp only [whereT, whereP, textP, openText, closeText, attrsText, attrText, styleName, List.length_append, List.length_cons, List.length_nil]; omega
  ·simp only [whereT, whereP, treeRules, rulesOf_ok s2, List.append_nil, List.nil_append]; rfl
  ·simp only [whereT, whereP, nodesP, List.nil_append, List.append_nil, List.mem_cons, List.not_mem_nil, or_false, List.mem_append, List.cons_append] at hn
   rcases hn with rfl | rfl | rfl <;> cases hx
 ·refine ⟨⟨by omega, attrNone, no_tag n0, hwp _ ⟨by omega, attrNone, no_tag n1, trivial⟩⟩, ⟨⟨_, s0⟩, ⟨trivial, trivial⟩, ⟨_, s1⟩, trivial⟩, ?_, by simp [whereT, whereP, sizeP], ?_, by simp [wRules], hpl, own_none fun n hn x hx => ?_⟩
  ·simp only [whereT, whereP, textP, openText, closeText, attrsText, attrText, styleName, List.length_append, List.length_cons, List.length_nil]; omega
  ·simp only [whereT, whereP, treeRules, rulesOf_ok s0, rulesOf_ok s1, List.append_nil, List.nil_append]; rfl
  ·simp only [whereT, whereP, nodesP, List.nil_append, List.append_nil, List.mem_cons, List.not_mem_nil, or_false, List.mem_append, List.cons_append] at hn
   rcases hn with rfl | rfl | rfl | rfl <;> cases hx
def whereLook (a b : B) (o j : Nat) : List PDecl :=
 let k := if o = 1 then j + 1 else j
 if k = 1 then [⟨colorName, a, false⟩] else if k = 2 then [⟨sizeName, b, false⟩] else []
theorem where_looks (a b : B) : ∀ o ≤ 2, ∀ (j : Nat) (n : PNode), (nodesP (-1) 0 0 (whereT a b o))[j]? = some n →
  cLook (rcl (nodesP (-1) 0 0 (whereT a b o)) (j : Int) [] (wRules a b) ++ ownClaims (ownOf n)) = whereLook a b o j ∧ n.attrs.length < 8 := by
 apply three <;> intro j n hn
 ·match j, hn with
  | 0, hn => have := Option.some.inj hn; subst this; exact ⟨by rfl, by rw [attrsAt_len]; decide⟩
  | 1, hn => have := Option.some.inj hn; subst this; exact ⟨by rfl, by rw [attrsAt_len]; decide⟩
  | 2, hn => have := Option.some.inj hn; subst this; exact ⟨by rfl, by rw [attrsAt_len]; decide⟩
  | j + 3, hn => cases hn
 ·match j, hn with
  | 0, hn => have := Option.some.inj hn; subst this; exact ⟨by rfl, by rw [attrsAt_len]; decide⟩
  | 1, hn => have := Option.some.inj hn; subst this; exact ⟨by rfl, by rw [attrsAt_len]; decide⟩
  | 2, hn => have := Option.some.inj hn; subst this; exact ⟨by rfl, by rw [attrsAt_len]; decide⟩
  | j + 3, hn => cases hn
 ·match j, hn with
  | 0, hn => have := Option.some.inj hn; subst this; exact ⟨by rfl, by rw [attrsAt_len]; decide⟩
  | 1, hn => have := Option.some.inj hn; subst this; exact ⟨by rfl, by rw [attrsAt_len]; decide⟩
  | 2, hn => have := Option.some.inj hn; subst this; exact ⟨by rfl, by rw [attrsAt_len]; decide⟩
  | 3, hn => have := Option.some.inj hn; subst this; exact ⟨by rfl, by rw [attrsAt_len]; decide⟩
  | j + 4, hn => cases hn
theorem set_none (t : B) : setStyle [] t = if t = [] then [] else [(styleName, t)] := by simp [setStyle, hasStyle]
theorem where_fold {a b : B} (ha : TopW a) (hb : TopW b) {tx : Nat → B} : ∀ o ≤ 2, (∀ j, j < sizeP (whereT a b o) → tx j = sPrint (whereLook a b o j)) → foldP tx (goes [false, false]) 0 0 (whereT a b o) = wantT a b o := by
 obtain ⟨hw, n2, n0, n1, l0, l1, l2⟩ := where_sheets ha hb
 have hw0 : ∀ x ∈ [rco a], x.wf := fun x hx => hw x (by simp at hx; simp [hx])
 have hw1 : ∀ x ∈ [rsz b], x.wf := fun x hx => hw x (by simp at hx; simp [hx])
 have s2 := sheet_in hw (by omega) (by simp [rulesIn, rco, rsz, rul])
 have s0 := sheet_in hw0 (by omega) (by simp [rulesIn, rco, rsz, rul])
 have s1 := sheet_in hw1 (by omega) (by simp [rulesIn, rco, rsz, rul])
 have c1 : sPrint [⟨colorName, a, false⟩] = declTextB colorName a := rfl
 have c2 : sPrint [⟨sizeName, b, false⟩] = declTextB sizeName b := rfl
 have d1 : declTextB colorName a ≠ [] := by simp [declTextB]
 have d2 : declTextB sizeName b ≠ [] := by simp [declTextB]
 apply three <;> intro h
 ·have t0 : tx 0 = [] := h 0 (by simp [whereT, whereP, sizeP])
  have t1 : tx 1 = declTextB colorName a := h 1 (by simp [whereT, whereP, sizeP])
  have t2 : tx 2 = declTextB sizeName b := h 2 (by simp [whereT, whereP, sizeP])
  simp only [whereT, whereP, foldP, sizeP, nRulesP, rulesOf_ok s2, splice_all hw, set_none, Nat.zero_add, Nat.reduceAdd, t0, t1, t2, if_neg d1, if_neg d2, if_true]
  rfl
 ·have t0 : tx 0 = declTextB colorName a := h 0 (by simp [whereT, whereP, sizeP])
  have t1 : tx 1 = declTextB sizeName b := h 1 (by simp [whereT, whereP, sizeP])
  have t2 : tx 2 = [] := h 2 (by simp [whereT, whereP, sizeP])
  simp only [whereT, whereP, foldP, sizeP, nRulesP, rulesOf_ok s2, splice_all hw, set_none, Nat.zero_add, Nat.add_zero, Nat.reduceAdd, t0, t1, t2, if_neg d1, if_neg d2, if_true]
  rfl
 ·have t0 : tx 0 = [] := h 0 (by simp [whereT, whereP, sizeP])
  have t1 : tx 1 = declTextB colorName a := h 1 (by simp [whereT, whereP, sizeP])
  have t2 : tx 2 = declTextB sizeName b := h 2 (by simp [whereT, whereP, sizeP])
  have t3 : tx 3 = [] := h 3 (by simp [whereT, whereP, sizeP])
  simp only [whereT, whereP, foldP, sizeP, nRulesP, rulesOf_ok s0, rulesOf_ok s1, splice_all hw0, splice_all hw1, set_none, Nat.zero_add, Nat.add_zero, Nat.reduceAdd, t0, t1, t2, t3, if_neg d1, if_neg d2, if_true]
  rfl
theorem top_where {a b : B} (ha : TopW a) (hb : TopW b) {o : Nat} (ho : o ≤ 2) {T : PT} (hT : T = whereT a b o) :
  fRead (textP T) = .ok (nodesP (-1) 0 0 T, treeRules 0 T) ∧ ∀ st, IsStays (nodesP (-1) 0 0 T) (treeRules 0 T) st → fFold (textP T) (nodesP (-1) 0 0 T) (treeRules 0 T) st = .ok (textP (wantT a b o)) := by
 subst hT
 have H := where_as ha hb o ho
 refine ⟨as_read H.read, fun st S => ?_⟩
 have hL := where_looks a b o ho
 obtain ⟨tx, t', m, g1, g2, g3, g4, g5, g6⟩ := H.fold (by simp [wRules, sr]) (fun j n hn => by
  obtain ⟨e1, e2⟩ := hL j n hn
  refine ⟨?_, e2⟩
  rw [e1]
  simp only [whereLook]
  generalize (if o = 1 then j + 1 else j) = k
  split
  ·simp
  ·split <;> simp) S
 have hmd : ∀ r ∈ treeRules 0 (whereT a b o), r.media = [] := fun r hr => by
  have : stripR r ∈ wRules a b := by rw [← H.rules]; exact List.mem_map.2 ⟨r, hr, rfl⟩
  have h : (stripR r).media = [] := by
   simp only [wRules, sr, List.mem_cons, List.not_mem_nil, or_false] at this
   rcases this with h | h <;> rw [h]
  exact h
 have hlen : (treeRules 0 (whereT a b o)).length = 2 := by
  have := congrArg List.length H.rules
  simpa [wRules] using this
 have hst := (stays_none S hmd).1
 rw [hlen] at hst
 rw [g3, g2, hst]
 congr 2
 exact where_fold ha hb o ho fun j hj => by
  have hj' : j < (nodesP (-1) 0 0 (whereT a b o)).length := by rw [nodesP_len]; exact hj
  rw [g1 j _ (List.getElem?_eq_getElem hj'), (hL j _ (List.getElem?_eq_getElem hj')).1]
end Go.Proofs.YtplbdlgmjehckacGreatDoor

