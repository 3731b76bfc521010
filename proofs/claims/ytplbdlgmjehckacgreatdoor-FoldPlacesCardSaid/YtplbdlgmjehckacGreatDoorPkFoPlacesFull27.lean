/-
 Lemmas for the claims of this seat: the program's functions walked, and plain laws. In this order: FoWays FoRest.
-/
import Derived.Test.YtplbdlgmjehckacGreatDoorPk8
namespace Go.Proofs.YtplbdlgmjehckacGreatDoor
set_option linter.unusedVariables false
set_option linter.unusedSimpArgs false
def tru (st : List Bool) (i : Nat) : Nat := (st.take i).count true
theorem tru_succ {st : List Bool} {i : Nat} {b : Bool} (h : st[i]? = some b) : tru st (i + 1) = tru st i + (if b = true then 1 else 0) := by
 unfold tru
 rw [List.take_add_one, h, List.count_append]
 cases b <;> simp
def pick {α : Type} : List α → List Bool → List α
 | r :: rs, b :: bs => if b = true then r :: pick rs bs else pick rs bs
 | _, _ => []
theorem keep_from {α : Type} : ∀ (rules : List α) (pre st : List Bool), st.length = rules.length → keepP (goes (pre ++ st)) pre.length rules = pick rules st
 | [], _, _, _ => by simp [keepP, pick]
 | r :: rs, pre, [], h => by simp at h
 | r :: rs, pre, b :: bs, h => by
  have ih := keep_from rs (pre ++ [b]) bs (by simpa using h)
  simp only [List.append_assoc, List.length_append, List.length_cons, List.length_nil, List.cons_append, List.nil_append] at ih
  simp only [keepP, pick]
  have hg : goes (pre ++ b :: bs) pre.length = !b := by
   unfold goes
   rw [List.getElem?_append_right (Nat.le_refl _), Nat.sub_self]
   cases b <;> simp
  rw [hg, ih]
  cases b <;> simp
theorem keep_pick {α : Type} {rules : List α} {st : List Bool} (h : st.length = rules.length) : keepP (goes st) 0 rules = pick rules st := keep_from rules [] st h
theorem pick_get {α : Type} : ∀ (rs : List α) (st : List Bool) (i : Nat) (r : α), st.length = rs.length → rs[i]? = some r → st[i]? = some true → (pick rs st)[tru st i]? = some r
 | [], _, _, _, _, h, _ => by simp at h
 | x :: xs, [], _, _, h, _, _ => by simp at h
 | x :: xs, b :: bs, 0, r, hl, h, hs => by
  simp at h hs
  subst h; subst hs
  simp [pick, tru]
 | x :: xs, b :: bs, i + 1, r, hl, h, hs => by
  have ih := pick_get xs bs i r (by simpa using hl) (by simpa using h) (by simpa using hs)
  have ht : tru (b :: bs) (i + 1) = tru bs i + (if b = true then 1 else 0) := by
   unfold tru
   rw [List.take_succ_cons, List.count_cons]
   cases b <;> simp
  rw [ht]
  simp only [pick]
  cases b <;> simp [ih]
theorem pick_len {α : Type} : ∀ (rs : List α) (st : List Bool), st.length = rs.length → (pick rs st).length = tru st st.length
 | [], [], _ => rfl
 | [], b :: bs, h => by simp at h
 | x :: xs, [], h => by simp at h
 | x :: xs, b :: bs, h => by
  have ih := pick_len xs bs (by simpa using h)
  have ht : tru (b :: bs) (bs.length + 1) = tru bs bs.length + (if b = true then 1 else 0) := by
   unfold tru
   rw [List.take_succ_cons, List.count_cons]
   cases b <;> simp
  rw [List.length_cons, ht]
  simp only [pick]
  cases b <;> simp [ih]
section
variable {s t : B} {l m : List PNode} {rules qs : List PRule} {st : List Bool} {T : PT}
theorem FoldAs.left (F : FoldAs s t l m rules qs st T) {i : Nat} {r : PRule} (hr : rules[i]? = some r) (hs : st[i]? = some true) : ∃ q, qs[tru st i]? = some q ∧ { q with lo := r.lo, hi := r.hi } = r := by
 have h1 := F.kept
 rw [keep_pick (by rw [F.len, List.length_map])] at h1
 have h2 := pick_get (rules.map stripR) st i (stripR r) (by rw [F.len, List.length_map]) (by rw [List.getElem?_map, hr]; rfl) hs
 rw [← h1, List.getElem?_map, Option.map_eq_some_iff] at h2
 obtain ⟨q, hq, he⟩ := h2
 refine ⟨q, hq, ?_⟩
 cases q; cases r
 simp only [stripR, PRule.mk.injEq] at he ⊢
 obtain ⟨h1, h2, h3, _⟩ := he
 exact ⟨h1, h2, h3, trivial, trivial⟩
theorem FoldAs.left_len (F : FoldAs s t l m rules qs st T) : qs.length = tru st rules.length := by
 have h1 := congrArg List.length F.kept
 rw [keep_pick (by rw [F.len, List.length_map]), pick_len _ _ (by rw [F.len, List.length_map]), List.length_map, F.len] at h1
 exact h1
theorem tru_some (S : IsStays l rules st) (h : tru st rules.length ≠ 0) : ∃ r ∈ rules, r.media ≠ [] := by
 have hm : true ∈ st := by
  unfold tru at h
  have := List.count_pos_iff.1 (Nat.pos_of_ne_zero h)
  exact List.mem_of_mem_take this
 obtain ⟨j, hj⟩ := List.getElem?_of_mem hm
 exact stay_media ((S.iff j true hj).1 rfl)
def someM (rules : List PRule) (i : Nat) : Bool := (rules.take i).any fun r => !r.media.isEmpty
theorem someM_succ {rules : List PRule} {i : Nat} {r : PRule} (h : rules[i]? = some r) : someM rules (i + 1) = (someM rules i || !r.media.isEmpty) := by
 unfold someM
 rw [List.take_add_one, h, List.any_append]
 simp
theorem someM_end (S : IsStays l rules st) (h : someM rules rules.length = false) : tru st rules.length = 0 := by
 refine Classical.byContradiction fun hn => ?_
 obtain ⟨r, hr, hm⟩ := tru_some S hn
 unfold someM at h
 rw [List.take_length, List.any_eq_false] at h
 have := h r hr
 cases hx : r.media with
 | nil => exact hm hx
 | cons a b => rw [hx] at this; simp at this
def bareOf (a : PAttr) : PAttr := ⟨a.name, a.val, 0, 0⟩
def bare (al : List PAttr) : List PAttr := (al.filter fun a => !(a.name == styleName)).map bareOf
theorem bare_succ {al : List PAttr} {i : Nat} {a : PAttr} (h : al[i]? = some a) : bare (al.take (i + 1)) = bare (al.take i) ++ (if (a.name == styleName) = true then [] else [bareOf a]) := by
 unfold bare
 rw [List.take_add_one, h, List.filter_append, List.map_append]
 cases hb : a.name == styleName <;> simp [List.filter_cons, hb]
theorem bare_len (al : List PAttr) (i : Nat) : (bare (al.take i)).length ≤ i := by
 unfold bare
 rw [List.length_map]
 have := List.length_filter_le (fun a : PAttr => !(a.name == styleName)) (al.take i)
 have := List.length_take_le i al
 omega
theorem bare_noStyle (al : List PAttr) : bare al = (noStyle (al.map pr)).map fun p => ⟨p.1, p.2, 0, 0⟩ := by
 unfold bare noStyle
 rw [List.filter_map, List.map_map]
 rfl
theorem fold_bare (F : FoldAs s t l m rules qs st T) {k : Nat} {n n' : PNode} (hn : l[k]? = some n) (hn' : m[k]? = some n') : n'.name = n.name ∧ n'.parent = n.parent ∧ bare n'.attrs = bare n.attrs := by
 obtain ⟨h1, h2, h3⟩ := fold_keeps F hn hn'
 exact ⟨h1, h2, by rw [bare_noStyle, bare_noStyle, h3]⟩
def stillR (rules : List PRule) (i : Nat) : Bool := (rules.take i).all fun r => !r.media.isEmpty
theorem stillR_succ {rules : List PRule} {i : Nat} {r : PRule} (h : rules[i]? = some r) : stillR rules (i + 1) = (stillR rules i && !r.media.isEmpty) := by
 unfold stillR
 rw [List.take_add_one, h, List.all_append]
 simp
def stillA (al : List PAttr) (i : Nat) : Bool := (al.take i).all fun a => !(a.name == styleName)
theorem stillA_succ {al : List PAttr} {i : Nat} {a : PAttr} (h : al[i]? = some a) : stillA al (i + 1) = (stillA al i && !(a.name == styleName)) := by
 unfold stillA
 rw [List.take_add_one, h, List.all_append]
 simp
def stillN (l : List PNode) (i : Nat) : Bool := (l.take i).all fun n => stillA n.attrs n.attrs.length
theorem stillN_succ {l : List PNode} {i : Nat} {n : PNode} (h : l[i]? = some n) : stillN l (i + 1) = (stillN l i && stillA n.attrs n.attrs.length) := by
 unfold stillN
 rw [List.take_add_one, h, List.all_append]
 simp
theorem still_end (R : ReadAs s l rules T) (S : IsStays l rules st) (hf : fFold s l rules st = .ok t) (h1 : stillR rules rules.length = true) (h2 : stillN l l.length = true) : s = t := by
 unfold stillR at h1
 unfold stillN at h2
 rw [List.take_length, List.all_eq_true] at h1 h2
 have h3 := fold_nothing R S (fun r hr => by
  have := h1 r hr
  intro hx
  rw [hx] at this
  cases this) (fun n hn a ha => by
  have := h2 n hn
  unfold stillA at this
  rw [List.take_length, List.all_eq_true] at this
  simpa using this a ha)
 rw [h3] at hf
 cases hf
 rfl
theorem ReadAs.declared (R : ReadAs s l rules T) (media : List B) {k : Nat} (hk : k < l.length) : ∃ look, cDeclared l (k : Int) rules media = .ok look :=
 ⟨_, declared_eq (List.getElem?_eq_getElem hk) (fun r hr => plain_none R.plain r hr) R.own⟩
theorem ReadAs.bare (R : ReadAs s l rules T) (media : List B) {k : Nat} (hk : k < l.length) : ∃ look, cDeclared l (k : Int) [] media = .ok look :=
 ⟨_, declared_eq (List.getElem?_eq_getElem hk) (fun r hr => by cases hr) R.own⟩
theorem value_okF {rs : List PRule} {media : List B} {name : B} (h : ∀ k : Nat, k < l.length → ∃ look, cDeclared l (k : Int) rs media = .ok look) : ∀ (f k : Nat), k < l.length → k < f → ∃ v, cValueF f l (k : Int) rs media name = .ok v
 | 0, k, _, hf => by omega
 | f + 1, k, hk, hf => by
  obtain ⟨look, hl⟩ := h k hk
  simp only [cValueF, hl, Ans.ok_then]
  cases lookFind look name with
  | some d => exact ⟨_, rfl⟩
  | none =>
   simp only
   split
   ·rename_i hc
    simp only [Bool.and_eq_true, decide_eq_true_eq] at hc
    obtain ⟨⟨_, h0⟩, h1⟩ := hc
    obtain ⟨j, hj⟩ : ∃ j : Nat, parentOf l (k : Int).toNat = (j : Int) := ⟨(parentOf l (k : Int).toNat).toNat, by omega⟩
    rw [hj] at h1 ⊢
    exact value_okF h f j (by omega) (by omega)
   ·exact ⟨_, rfl⟩
theorem ReadAs.value (R : ReadAs s l rules T) (media : List B) (name : B) {k : Nat} (hk : k < l.length) : ∃ v, cValue l (k : Int) rules media name = .ok v :=
 value_okF (fun k hk => R.declared media hk) _ k hk (by simp)
end
def behindA : Nat → List PAttr → Nat
 | p, [] => p
 | _, a :: al => behindA a.hi.toNat al
def restTo (n : PNode) : Nat := if n.name = styleName then n.inT.toNat else behindA n.nameEnd.toNat n.attrs
def restF (s : B) : Nat → List PNode → B
 | a, [] => s.drop a
 | a, n :: ns => sub s a n.nameEnd.toNat ++ restF s (restTo n) ns
def runsA (s : B) : Nat → List PAttr → Prop
 | p, [] => s[p]? = some 62
 | p, a :: al => a.lo = (p : Int) ∧ s[p]? = some 32 ∧ (p : Int) < a.hi ∧ runsA s a.hi.toNat al
def restOk (s : B) : Nat → List PNode → Prop
 | a, [] => a ≤ s.length
 | a, n :: ns => (a : Int) ≤ n.nameEnd ∧ n.nameEnd.toNat ≤ s.length ∧ runsA s n.nameEnd.toNat n.attrs ∧ 0 ≤ n.inT ∧ restOk s (restTo n) ns
def restP : PT → B
 | .nil => []
 | .text c n => c :: restP n
 | .note x n => noteBegin ++ (x ++ (noteEnd ++ restP n))
 | .elem nm al kids n => [60] ++ (nm ++ ([62] ++ (restP kids ++ (closeText nm ++ restP n))))
 | .style al inner n => [60] ++ (styleName ++ (closeText styleName ++ restP n))
theorem restP_fold (tx : Nat → B) (g : Nat → Bool) : ∀ (T : PT) (c i : Nat), restP (foldP tx g c i T) = restP T
 | .nil, _, _ => rfl
 | .text _ n, _, _ => by simp only [foldP, restP, restP_fold tx g n]
 | .note _ n, _, _ => by simp only [foldP, restP, restP_fold tx g n]
 | .elem _ _ kids n, _, _ => by simp only [foldP, restP, restP_fold tx g n, restP_fold tx g kids]
 | .style _ _ n, _, _ => by simp only [foldP, restP, restP_fold tx g n]
theorem sub_at {s p w q : B} {a b : Nat} (hs : s = p ++ (w ++ q)) (ha : a = p.length) (hb : b = p.length + w.length) : sub s a b = w := by
 subst ha; subst hb; rw [hs]; exact sub_mid p w q
theorem restOk.early {s : B} {a b : Nat} {ns : List PNode} (h : restOk s b ns) (hab : a ≤ b) : restOk s a ns := by
 cases ns with
 | nil => exact Nat.le_trans hab h
 | cons n ns => obtain ⟨h1, h2⟩ := h; exact ⟨by omega, h2⟩
theorem restOk.from {s : B} {a b : Nat} {ns : List PNode} (h : restOk s b ns) (hab : a ≤ b) : restF s a ns = sub s a b ++ restF s b ns := by
 cases ns with
 | nil => simp only [restF]; exact (sub_to hab).symm
 | cons n ns =>
  obtain ⟨h1, h2, _⟩ := h
  simp only [restF]
  rw [← List.append_assoc, sub_append s hab (by omega)]
theorem behind_at : ∀ (al : List (B × B)) (p : Nat), behindA p (attrsAt p al) = p + (attrsText al).length
 | [], p => by simp [attrsAt, behindA, attrsText]
 | a :: al, p => by
  simp only [attrsAt, behindA, attrsText, List.length_append]
  rw [Int.toNat_natCast, behind_at al]; omega
theorem runs_at {s : B} : ∀ (al : List (B × B)) (p q : B), s = p ++ (attrsText al ++ (62 :: q)) → runsA s p.length (attrsAt p.length al)
 | [], p, q, h => by
  simp only [attrsAt, runsA, attrsText, List.nil_append] at h ⊢
  rw [h, List.getElem?_append_right (Nat.le_refl _)]; simp
 | a :: al, p, q, h => by
  have hl : p.length + (attrText a).length = (p ++ attrText a).length := by simp
  simp only [attrsAt, runsA]
  refine ⟨trivial, ?_, ?_, ?_⟩
  ·rw [h, List.getElem?_append_right (Nat.le_refl _)]; simp [attrsText, attrText]
  ·have := attrText_pos a; omega
  ·rw [Int.toNat_natCast, hl]
   exact runs_at al (p ++ attrText a) q (by rw [h]; simp [attrsText])
theorem rest_tree {s : B} : ∀ (T : PT) (d c : Nat) (par : Int) (p q : B) (ms : List PNode), s = p ++ (textP T ++ q) → wfP d T → restOk s (p ++ textP T).length ms →
  restOk s p.length (nodesP par c p.length T ++ ms) ∧ restF s p.length (nodesP par c p.length T ++ ms) = restP T ++ restF s (p ++ textP T).length ms
 | .nil, d, c, par, p, q, ms, hs, hw, hm => by
  simp only [textP, List.append_nil] at hm ⊢
  simp only [nodesP, List.nil_append, restP]
  exact ⟨hm, trivial⟩
 | .text x n, d, c, par, p, q, ms, hs, hw, hm => by
  have hl : p.length + 1 = (p ++ [x]).length := by simp
  have he : (p ++ textP (.text x n)).length = ((p ++ [x]) ++ textP n).length := by simp [textP]
  rw [he] at hm ⊢
  obtain ⟨h1, h2⟩ := rest_tree n d c par (p ++ [x]) q ms (by rw [hs]; simp [textP]) hw.2.2 hm
  rw [nodesP, hl]
  refine ⟨h1.early (by simp), ?_⟩
  rw [h1.from (by simp), h2]
  have : sub s p.length (p ++ [x]).length = [x] := sub_at (p := p) (q := textP n ++ q) (by rw [hs]; simp [textP]) rfl (List.length_append ..)
  rw [this]; rfl
 | .note x n, d, c, par, p, q, ms, hs, hw, hm => by
  have hl : p.length + (4 + x.length + 3) = (p ++ (noteBegin ++ (x ++ noteEnd))).length := by simp [noteBegin, noteEnd]; omega
  have he : (p ++ textP (.note x n)).length = ((p ++ (noteBegin ++ (x ++ noteEnd))) ++ textP n).length := by simp [textP]
  rw [he] at hm ⊢
  obtain ⟨h1, h2⟩ := rest_tree n d c par (p ++ (noteBegin ++ (x ++ noteEnd))) q ms (by rw [hs]; simp [textP]) hw.2 hm
  rw [nodesP, hl]
  refine ⟨h1.early (by simp), ?_⟩
  rw [h1.from (by simp), h2]
  have : sub s p.length (p ++ (noteBegin ++ (x ++ noteEnd))).length = noteBegin ++ (x ++ noteEnd) := sub_at (p := p) (q := textP n ++ q) (by rw [hs]; simp [textP]) rfl (List.length_append ..)
  rw [this]; simp [restP]
 | .elem nm al kids n, d, c, par, p, q, ms, hs, hw, hm => by
  obtain ⟨_, _, hns, _, hk, hn⟩ := hw
  have l1 : p.length + (openText nm al).length = (p ++ openText nm al).length := by simp
  have l2 : p.length + (openText nm al).length + (textP kids).length + (closeText nm).length = (p ++ openText nm al ++ textP kids ++ closeText nm).length := by simp [Nat.add_assoc]
  have l0 : p.length + 1 + nm.length = (p ++ ([60] ++ nm)).length := by simp only [List.length_append, List.length_cons, List.length_nil]; omega
  have he : (p ++ textP (.elem nm al kids n)).length = ((p ++ openText nm al ++ textP kids ++ closeText nm) ++ textP n).length := by simp [textP]
  rw [he] at hm ⊢
  obtain ⟨n1, n2⟩ := rest_tree n d (c + 1 + sizeP kids) par (p ++ openText nm al ++ textP kids ++ closeText nm) q ms (by rw [hs]; simp [textP]) hn hm
  obtain ⟨k1, k2⟩ := rest_tree kids (d + 1) (c + 1) (c : Int) (p ++ openText nm al) (closeText nm ++ (textP n ++ q)) (nodesP par (c + 1 + sizeP kids) (p ++ openText nm al ++ textP kids ++ closeText nm).length n ++ ms) (by rw [hs]; simp [textP]) hk
   (n1.early (by simp))
  rw [nodesP, l2, l1, List.cons_append, List.append_assoc]
  have hb : restTo ⟨nm, par, attrsAt (p.length + 1 + nm.length) al, ((p.length + 1 + nm.length : Nat) : Int), 0, 0⟩ + 1 = (p ++ openText nm al).length := by
   unfold restTo
   simp only [hns, if_false, Int.toNat_natCast]
   rw [behind_at]; simp [openText]; omega
  have hr : runsA s (p.length + 1 + nm.length) (attrsAt (p.length + 1 + nm.length) al) := by
   rw [l0]
   exact runs_at al (p ++ ([60] ++ nm)) (textP kids ++ (closeText nm ++ (textP n ++ q))) (by rw [hs]; simp [textP, openText])
  have hle : p.length + 1 + nm.length ≤ s.length := by rw [hs]; simp [textP, openText]; omega
  refine ⟨⟨by simp only []; omega, hle, hr, Int.le_refl _, k1.early (by omega)⟩, ?_⟩
  simp only [restF]
  rw [k1.from (by omega : _ ≤ (p ++ openText nm al).length), k2, n1.from (show (p ++ openText nm al ++ textP kids).length ≤ _ by simp), n2]
  have e1 : sub s p.length (p.length + 1 + nm.length) = [60] ++ nm := sub_at (p := p) (q := attrsText al ++ (62 :: (textP kids ++ (closeText nm ++ (textP n ++ q))))) (by rw [hs]; simp [textP, openText]) rfl (by simp only [List.length_append, List.length_cons, List.length_nil]; omega)
  have hw3 : (p ++ openText nm al).length = (p ++ ([60] ++ (nm ++ attrsText al))).length + 1 := by simp only [openText, List.length_append, List.length_cons, List.length_nil]; omega
  have e2 : sub s (restTo ⟨nm, par, attrsAt (p.length + 1 + nm.length) al, ((p.length + 1 + nm.length : Nat) : Int), 0, 0⟩) (p ++ openText nm al).length = [62] :=
   sub_at (p := p ++ ([60] ++ (nm ++ attrsText al))) (q := textP kids ++ (closeText nm ++ (textP n ++ q))) (by rw [hs]; simp [textP, openText]) (by omega) (by rw [hw3, List.length_cons, List.length_nil])
  have e3 : sub s (p ++ openText nm al ++ textP kids).length (p ++ openText nm al ++ textP kids ++ closeText nm).length = closeText nm :=
   sub_at (p := p ++ openText nm al ++ textP kids) (q := textP n ++ q) (by rw [hs]; simp [textP]) rfl (List.length_append ..)
  simp only [Int.toNat_natCast]
  rw [e1, e2, e3]; simp [restP]
 | .style al inner n, d, c, par, p, q, ms, hs, hw, hm => by
  obtain ⟨_, _, _, hn⟩ := hw
  have l1 : p.length + (openText styleName al).length = (p ++ openText styleName al).length := by simp
  have l2 : p.length + (openText styleName al).length + inner.length + (closeText styleName).length = (p ++ openText styleName al ++ inner ++ closeText styleName).length := by simp [Nat.add_assoc]
  have l3 : p.length + (openText styleName al).length + inner.length = (p ++ openText styleName al ++ inner).length := by simp [Nat.add_assoc]
  have l0 : p.length + 1 + styleName.length = (p ++ ([60] ++ styleName)).length := by simp only [List.length_append, List.length_cons, List.length_nil]; omega
  have he : (p ++ textP (.style al inner n)).length = ((p ++ openText styleName al ++ inner ++ closeText styleName) ++ textP n).length := by simp [textP]
  rw [he] at hm ⊢
  obtain ⟨n1, n2⟩ := rest_tree n d (c + 1) par (p ++ openText styleName al ++ inner ++ closeText styleName) q ms (by rw [hs]; simp [textP]) hn hm
  rw [nodesP, l2, List.cons_append]
  have hr : runsA s (p.length + 1 + styleName.length) (attrsAt (p.length + 1 + styleName.length) al) := by
   rw [l0]
   exact runs_at al (p ++ ([60] ++ styleName)) (inner ++ (closeText styleName ++ (textP n ++ q))) (by rw [hs]; simp [textP, openText])
  have hle : p.length + 1 + styleName.length ≤ s.length := by rw [hs]; simp [textP, openText]; omega
  have hto : restTo ⟨styleName, par, attrsAt (p.length + 1 + styleName.length) al, ((p.length + 1 + styleName.length : Nat) : Int), ((p.length + (openText styleName al).length : Nat) : Int), ((p.length + (openText styleName al).length + inner.length : Nat) : Int)⟩ = (p ++ openText styleName al ++ inner).length := by
   unfold restTo
   rw [if_pos rfl, ← l3]; rfl
  refine ⟨⟨by simp only []; omega, hle, hr, Int.natCast_nonneg _, by rw [hto]; exact n1.early (by simp)⟩, ?_⟩
  simp only [restF]
  rw [hto, n1.from (show (p ++ openText styleName al ++ inner).length ≤ _ by simp), n2]
  have e1 : sub s p.length (p.length + 1 + styleName.length) = [60] ++ styleName := sub_at (p := p) (q := attrsText al ++ (62 :: (inner ++ (closeText styleName ++ (textP n ++ q))))) (by rw [hs]; simp [textP, openText]) rfl (by simp only [List.length_append, List.length_cons, List.length_nil]; omega)
  have e3 : sub s (p ++ openText styleName al ++ inner).length (p ++ openText styleName al ++ inner ++ closeText styleName).length = closeText styleName :=
   sub_at (p := p ++ openText styleName al ++ inner) (q := textP n ++ q) (by rw [hs]; simp [textP]) rfl (List.length_append ..)
  simp only [Int.toNat_natCast]
  rw [e1, e3]; simp [restP]
theorem rest_page {T : PT} (hw : wfP 1 T) : restOk (textP T) 0 (nodesP (-1) 0 0 T) ∧ restF (textP T) 0 (nodesP (-1) 0 0 T) = restP T := by
 obtain ⟨h1, h2⟩ := rest_tree (s := textP T) T 1 0 (-1) [] [] [] (by simp) hw (by simp [restOk])
 simp only [List.length_nil, List.append_nil, List.nil_append] at h1 h2
 refine ⟨h1, ?_⟩
 rw [h2]; simp [restF]
theorem fold_rest {s t : B} {l m : List PNode} {rules qs : List PRule} {st : List Bool} {T : PT} (F : FoldAs s t l m rules qs st T) : restOk s 0 l ∧ restOk t 0 m ∧ restF t 0 m = restF s 0 l := by
 have h1 := rest_page F.src.wf
 have h2 := rest_page F.dst.wf
 rw [← F.src.text, ← F.src.nodes] at h1
 rw [← F.dst.text, ← F.dst.nodes] at h2
 exact ⟨h1.1, h2.1, by rw [h1.2, h2.2, restP_fold]⟩
end Go.Proofs.YtplbdlgmjehckacGreatDoor

