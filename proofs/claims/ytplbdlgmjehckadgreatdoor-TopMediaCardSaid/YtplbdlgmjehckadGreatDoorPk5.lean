/-
  Lemmas for the claims of this seat: the program's functions walked, and plain laws. In this order: PgTree FoSpec FoTree.
-/
import Derived.Test.YtplbdlgmjehckadGreatDoorPk3
import Derived.Test.YtplbdlgmjehckadGreatDoorPk4
namespace Go.Proofs.YtplbdlgmjehckadGreatDoor
set_option linter.unusedVariables false
set_option linter.unusedSimpArgs false
inductive PT where
  | nil
  | text (c : UInt8) (next : PT)
  | note (x : B) (next : PT)
  | elem (nm : B) (al : List (B × B)) (kids next : PT)
  | style (al : List (B × B)) (inner : B) (next : PT)
def attrText (a : B × B) : B := [32] ++ (a.1 ++ ([61, 34] ++ (a.2 ++ [34])))
def attrsText : List (B × B) → B
  | [] => []
  | a :: al => attrText a ++ attrsText al
def openText (nm : B) (al : List (B × B)) : B := [60] ++ (nm ++ (attrsText al ++ [62]))
def closeText (nm : B) : B := [60, 47] ++ (nm ++ [62])
def textP : PT → B
  | .nil => []
  | .text c n => c :: textP n
  | .note x n => noteBegin ++ (x ++ (noteEnd ++ textP n))
  | .elem nm al kids n => openText nm al ++ (textP kids ++ (closeText nm ++ textP n))
  | .style al inner n => openText styleName al ++ (inner ++ (closeText styleName ++ textP n))
def sizeP : PT → Nat
  | .nil => 0
  | .text _ n => sizeP n
  | .note _ n => sizeP n
  | .elem _ _ kids n => 1 + sizeP kids + sizeP n
  | .style _ _ n => 1 + sizeP n
def attrsAt : Nat → List (B × B) → List PAttr
  | _, [] => []
  | p, a :: al => ⟨a.1, a.2, (p : Int), ((p + (attrText a).length : Nat) : Int)⟩ :: attrsAt (p + (attrText a).length) al
def nodesP : Int → Nat → Nat → PT → List PNode
  | _, _, _, .nil => []
  | par, c, p, .text _ n => nodesP par c (p + 1) n
  | par, c, p, .note x n => nodesP par c (p + (4 + x.length + 3)) n
  | par, c, p, .elem nm al kids n =>
    ⟨nm, par, attrsAt (p + 1 + nm.length) al, ((p + 1 + nm.length : Nat) : Int), 0, 0⟩ ::
      (nodesP (c : Int) (c + 1) (p + (openText nm al).length) kids ++ nodesP par (c + 1 + sizeP kids) (p + (openText nm al).length + (textP kids).length + (closeText nm).length) n)
  | par, c, p, .style al inner n =>
    ⟨styleName, par, attrsAt (p + 1 + styleName.length) al, ((p + 1 + styleName.length : Nat) : Int), ((p + (openText styleName al).length : Nat) : Int), ((p + (openText styleName al).length + inner.length : Nat) : Int)⟩ ::
      nodesP par (c + 1) (p + (openText styleName al).length + inner.length + (closeText styleName).length) n
theorem nodesP_len : ∀ (T : PT) (par : Int) (c p : Nat), (nodesP par c p T).length = sizeP T
  | .nil, _, _, _ => rfl
  | .text _ n, _, _, _ => by simp only [nodesP, sizeP, nodesP_len n]
  | .note _ n, _, _, _ => by simp only [nodesP, sizeP, nodesP_len n]
  | .elem _ _ kids n, _, _, _ => by simp only [nodesP, sizeP, List.length_cons, List.length_append, nodesP_len n, nodesP_len kids]; omega
  | .style _ _ n, _, _, _ => by simp only [nodesP, sizeP, List.length_cons, nodesP_len n]; omega
structure AttrsOk (al : List (B × B)) : Prop where
  name : ∀ a ∈ al, NameOk a.1
  val : ∀ a ∈ al, ∀ c ∈ a.2, isVal c = true
  few : al.length ≤ 8
  apart : (al.map (·.1)).Nodup
def wfP : Nat → PT → Prop
  | _, .nil => True
  | d, .text c n => pTextOk c = true ∧ c ≠ 60 ∧ wfP d n
  | d, .note x n => findSub noteEnd (x ++ noteEnd) = some x.length ∧ wfP d n
  | d, .elem nm al kids n => d ≤ 20 ∧ NameOk nm ∧ nm ≠ styleName ∧ AttrsOk al ∧ wfP (d + 1) kids ∧ wfP d n
  | d, .style al inner n => d ≤ 20 ∧ AttrsOk al ∧ findSub styleEnd (inner ++ styleEnd) = some inner.length ∧ wfP d n
theorem pName_eq {l nm l' : B} {a a' : Nat} (h : sName l a = .ok (nm, l', a')) : pName l a = .ok (nm, l', a') := by
  unfold sName at h
  unfold pName
  split at h
  · cases h
  · rename_i hn
    rw [if_neg (by omega), if_neg (by omega)]; exact h
theorem sName_eq {l nm l' : B} {a a' : Nat} (h : pName l a = .ok (nm, l', a')) : sName l a = .ok (nm, l', a') := by
  unfold pName at h
  unfold sName
  split at h
  · cases h
  · split at h
    · cases h
    · rw [if_neg (by omega)]; exact h
theorem pName_read {nm m : B} (h : NameOk nm) (hm : m.head?.any isMore = false) (b : Nat) : pName (nm ++ m) b = .ok (nm, m, b + nm.length) := pName_eq (name_read h hm b)
theorem pMust_read (w m : B) (b : Nat) : pMust w (w ++ m) b = .ok (m, b + w.length) := by
  unfold pMust; rw [if_pos (prefix_pos _ _)]; simp
theorem any_name {as : List PAttr} {nm : B} : (as.any fun a => a.name == nm) = true ↔ nm ∈ as.map (·.name) := by
  simp only [List.any_eq_true, List.mem_map, beq_iff_eq]
theorem attr_read {as : List PAttr} {a : B × B} (hn : NameOk a.1) (hv : ∀ c ∈ a.2, isVal c = true) (hx : a.1 ∉ as.map (·.name)) (hl : as.length < 8) (m : B) (p : Nat) :
    pAttr as (attrText a ++ m) p = .ok (⟨a.1, a.2, (p : Int), ((p + (attrText a).length : Nat) : Int)⟩, m, p + (attrText a).length) := by
  obtain ⟨nm, v⟩ := a
  simp only at hn hv hx
  unfold pAttr attrText
  have e : ([32] ++ (nm ++ ([61, 34] ++ (v ++ [34]))) ++ m).drop 1 = nm ++ ([61, 34] ++ (v ++ ([34] ++ m))) := by simp
  simp only at e ⊢
  rw [e, then_of (pName_read hn (by rfl) _)]
  simp only
  have h1 : (as.any fun a => a.name == nm) = false := by
    rw [← Bool.not_eq_true, any_name]; exact hx
  rw [h1, show (as.length == 8) = false from by simp; omega, if_neg (by simp), then_of (pMust_read _ _ _)]
  simp only
  have hpv : pVal (v ++ ([34] ++ m)) = v := takeWhile_ext hv (by rfl)
  rw [hpv, List.drop_left, then_of (pMust_read _ _ _)]
  have hl : ([32] ++ (nm ++ ([61, 34] ++ (v ++ [34])))).length = 1 + (nm.length + (2 + (v.length + 1))) := by simp; omega
  simp only [hl, List.length_cons, List.length_nil]
  rw [show p + 1 + nm.length + (0 + 1 + 1) + v.length + (0 + 1) = p + (1 + (nm.length + (2 + (v.length + 1)))) from by omega]
theorem attrsAt_len : ∀ (al : List (B × B)) (p : Nat), (attrsAt p al).length = al.length
  | [], _ => rfl
  | a :: al, p => by simp only [attrsAt, List.length_cons, attrsAt_len al]
theorem attrText_pos (a : B × B) : 0 < (attrText a).length := by simp [attrText]
theorem attrs_read : ∀ (al : List (B × B)) (as : List PAttr) (f p : Nat) (m : B), (∀ a ∈ al, NameOk a.1) → (∀ a ∈ al, ∀ c ∈ a.2, isVal c = true) → as.length + al.length ≤ 8 → (as.map (·.name) ++ al.map (·.1)).Nodup →
    (attrsText al).length < f → ([32] : B).isPrefixOf m = false → pAttrs f as (attrsText al ++ m) p = .ok (as ++ attrsAt p al, m, p + (attrsText al).length)
  | [], as, f, p, m, _, _, _, _, hf, hm => by
    cases f with
    | zero => omega
    | succ f => simp only [attrsText, List.nil_append, pAttrs, hm, Bool.false_eq_true, if_false, attrsAt, List.append_nil, List.length_nil, Nat.add_zero]
  | a :: al, as, f, p, m, hn, hv, hl, hd, hf, hm => by
    cases f with
    | zero => omega
    | succ f =>
      have hpos := attrText_pos a
      simp only [attrsText, List.length_append, List.append_assoc] at hf ⊢
      have hp : ([32] : B).isPrefixOf (attrText a ++ (attrsText al ++ m)) = true := by unfold attrText; rw [List.append_assoc]; exact prefix_pos _ _
      have hx : a.1 ∉ as.map (·.name) := by
        intro hx
        rw [List.nodup_append] at hd
        exact hd.2.2 _ hx _ (by simp) rfl
      rw [pAttrs, if_pos hp, then_of (attr_read (hn a (by simp)) (hv a (by simp)) hx (by simp at hl; omega) _ p)]
      simp only
      rw [attrs_read al _ f _ m (fun x hx => hn x (by simp [hx])) (fun x hx => hv x (by simp [hx])) (by simp at hl ⊢; omega) (by simpa using hd) (by omega) hm]
      simp [attrsAt, Nat.add_assoc]
theorem open_read {nm : B} {al : List (B × B)} (hn : NameOk nm) (ha : AttrsOk al) {deep count : Nat} (hd : deep ≤ 20) (hc : count ≠ 120) (parent : Int) (m : B) (p : Nat) :
    pOpen parent deep count (openText nm al ++ m) p = .ok (⟨nm, parent, attrsAt (p + 1 + nm.length) al, ((p + 1 + nm.length : Nat) : Int), 0, 0⟩, m, p + (openText nm al).length) := by
  unfold pOpen openText
  rw [if_neg (by omega), if_neg hc]
  have e : [60] ++ (nm ++ (attrsText al ++ [62])) ++ m = [60] ++ (nm ++ (attrsText al ++ ([62] ++ m))) := by simp
  rw [e, then_of (pMust_read _ _ _)]
  simp only
  have hh : (attrsText al ++ ([62] ++ m)).head?.any isMore = false := by
    cases al with
    | nil => rfl
    | cons a al => rfl
  rw [then_of (pName_read hn hh _)]
  simp only
  rw [then_of (attrs_read al [] _ _ ([62] ++ m) ha.name ha.val (by simpa using ha.few) (by simpa using ha.apart) (by simp; omega) (by rfl))]
  simp only [List.nil_append]
  rw [then_of (pMust_read _ _ _)]
  simp; omega
theorem attr_inv {as : List PAttr} {l l' : B} {p p' : Nat} {x : PAttr} (hp : ([32] : B).isPrefixOf l = true) (h : pAttr as l p = .ok (x, l', p')) :
    ∃ a : B × B, NameOk a.1 ∧ (∀ c ∈ a.2, isVal c = true) ∧ a.1 ∉ as.map (·.name) ∧ as.length ≠ 8 ∧ l = attrText a ++ l' ∧ p' = p + (attrText a).length ∧ x = ⟨a.1, a.2, (p : Int), ((p + (attrText a).length : Nat) : Int)⟩ := by
  obtain ⟨r, rfl, hd⟩ := prefix_split hp
  rw [show ([32] : B).length = 1 from rfl] at hd
  unfold pAttr at h
  rw [hd] at h
  obtain ⟨⟨nm, l1, p1⟩, h1, h⟩ := then_ok h
  have h1' := sName_eq h1
  obtain ⟨hpos, rfl, rfl, _, _⟩ := name_pos h1'
  simp only at h
  split at h
  · cases h
  · rename_i hb
    rw [Bool.or_eq_true, not_or, any_name] at hb
    obtain ⟨⟨l2, p2⟩, h2, h⟩ := then_ok h
    obtain ⟨rfl, rfl, _⟩ := must_loc h2
    obtain ⟨⟨l3, p3⟩, h3, h⟩ := then_ok h
    simp only at h3
    have hsplit : l2 = pVal l2 ++ l2.drop (pVal l2).length := by
      conv => lhs; rw [← List.take_append_drop (pVal l2).length l2]
      unfold pVal; rw [takeWhile_take]
    obtain ⟨e3, rfl, _⟩ := must_loc h3
    cases h
    refine ⟨(nm, pVal l2), name_ok_of h1', fun c hc => List.all_eq_true.1 (List.all_takeWhile (p := isVal) (l := l2)) c hc, hb.1, by simpa using hb.2, ?_, ?_, ?_⟩
    · unfold attrText
      conv => lhs; rw [hsplit, e3]
      simp
    · simp [attrText]; omega
    · congr 2
      simp [attrText]; omega
theorem attrs_inv : ∀ (f : Nat) (as : List PAttr) (l : B) (p : Nat) (as' : List PAttr) (l' : B) (p' : Nat), pAttrs f as l p = .ok (as', l', p') → (as.map (·.name)).Nodup → as.length ≤ 8 →
    ∃ al : List (B × B), (∀ a ∈ al, NameOk a.1) ∧ (∀ a ∈ al, ∀ c ∈ a.2, isVal c = true) ∧ as.length + al.length ≤ 8 ∧ (as.map (·.name) ++ al.map (·.1)).Nodup ∧ l = attrsText al ++ l' ∧ p' = p + (attrsText al).length ∧ as' = as ++ attrsAt p al ∧ ([32] : B).isPrefixOf l' = false := by
  intro f
  induction f with
  | zero => intro as l p as' l' p' h; cases h
  | succ f ih =>
    intro as l p as' l' p' h hnd hle
    rw [pAttrs] at h
    split at h
    · rename_i hp
      obtain ⟨⟨x, l1, p1⟩, h1, h⟩ := then_ok h
      obtain ⟨a, h2, h3, h4, h5, rfl, rfl, rfl⟩ := attr_inv hp h1
      obtain ⟨al, g1, g2, g3, g4, rfl, rfl, rfl, g5⟩ := ih _ _ _ _ _ _ h (by
        rw [List.map_append, List.nodup_append]
        refine ⟨hnd, by simp, ?_⟩
        intro y hy z hz
        simp at hz; subst hz
        rintro rfl; exact h4 hy) (by simp; omega)
      refine ⟨a :: al, ?_, ?_, by simp at g3 ⊢; omega, by simpa using g4, by simp [attrsText], by simp [attrsText]; omega, by simp [attrsAt], g5⟩
      · intro y hy; rcases List.mem_cons.1 hy with rfl | hy
        · exact h2
        · exact g1 y hy
      · intro y hy; rcases List.mem_cons.1 hy with rfl | hy
        · exact h3
        · exact g2 y hy
    · rename_i hp
      cases h
      exact ⟨[], by simp, by simp, by simpa using hle, by simpa using hnd, rfl, rfl, by simp [attrsAt], by rw [Bool.not_eq_true] at hp; exact hp⟩
theorem open_inv {parent : Int} {deep count : Nat} {l l' : B} {p p' : Nat} {n : PNode} (h : pOpen parent deep count l p = .ok (n, l', p')) :
    deep ≤ 20 ∧ count ≠ 120 ∧ ∃ (nm : B) (al : List (B × B)), NameOk nm ∧ AttrsOk al ∧ l = openText nm al ++ l' ∧ p' = p + (openText nm al).length ∧ n = ⟨nm, parent, attrsAt (p + 1 + nm.length) al, ((p + 1 + nm.length : Nat) : Int), 0, 0⟩ := by
  unfold pOpen at h
  split at h
  · cases h
  · split at h
    · cases h
    · rename_i hd hc
      refine ⟨by omega, hc, ?_⟩
      obtain ⟨⟨l1, p1⟩, h1, h⟩ := then_ok h
      obtain ⟨rfl, rfl, _⟩ := must_loc h1
      obtain ⟨⟨nm, l2, p2⟩, h2, h⟩ := then_ok h
      have h2' := sName_eq h2
      obtain ⟨hpos, rfl, rfl, _, _⟩ := name_pos h2'
      obtain ⟨⟨as, l3, p3⟩, h3, h⟩ := then_ok h
      obtain ⟨al, g1, g2, g3, g4, rfl, rfl, rfl, g5⟩ := attrs_inv _ _ _ _ _ _ _ h3 (by simp) (by simp)
      obtain ⟨⟨l4, p4⟩, h4, h⟩ := then_ok h
      obtain ⟨rfl, rfl, _⟩ := must_loc h4
      cases h
      refine ⟨nm, al, name_ok_of h2', ⟨g1, g2, by simpa using g3, by simpa using g4⟩, by simp [openText], by simp [openText]; omega, ?_⟩
      simp
def pEnds (m : B) : Bool := m.isEmpty || ([60, 47] : B).isPrefixOf m
theorem close_ends (nm m : B) : pEnds (closeText nm ++ m) = true := by simp [pEnds, closeText, List.isPrefixOf]
theorem find_ext {w x m : B} (hw : w ≠ []) (h : findSub w (x ++ w) = some x.length) : findSub w (x ++ (w ++ m)) = some x.length := by
  have := findSub_take hw m h
  rw [List.take_of_length_le (by simp)] at this
  rw [← List.append_assoc]; exact this
theorem open_head (nm : B) (al : List (B × B)) (hn : NameOk nm) (m : B) : ∃ c t, openText nm al ++ m = 60 :: c :: t ∧ isLow c = true := by
  obtain ⟨⟨c, t, rfl, hc⟩, _⟩ := name_all hn
  exact ⟨c, _, rfl, hc⟩
theorem not_close {c : UInt8} {t : B} (hc : isLow c = true) : ([60, 47] : B).isPrefixOf (60 :: c :: t) = false ∧ noteBegin.isPrefixOf (60 :: c :: t) = false ∧ ([60] : B).isPrefixOf (60 :: c :: t) = true := by
  simp [isLow] at hc
  have h1 : ¬ (47 : UInt8) = c := fun e => by have : c.toNat = 47 := by rw [← e]; rfl
                                              omega
  have h2 : ¬ (33 : UInt8) = c := fun e => by have : c.toNat = 33 := by rw [← e]; rfl
                                              omega
  exact ⟨by simp [List.isPrefixOf, h1], by simp [noteBegin, List.isPrefixOf, h2], by simp [List.isPrefixOf]⟩
theorem items_read : ∀ (T : PT) (f : Nat) (parent : Int) (deep : Nat) (ns : List PNode) (m : B) (p : Nat), wfP deep T → ns.length + sizeP T ≤ 120 → (textP T).length < f → pEnds m = true →
    pItems f parent deep ns (textP T ++ m) p = .ok (ns ++ nodesP parent ns.length p T, m, p + (textP T).length)
  | .nil, f, parent, deep, ns, m, p, _, _, hf, hm => by
    cases f with
    | zero => omega
    | succ f =>
      simp only [textP, List.nil_append, nodesP, List.append_nil, List.length_nil, Nat.add_zero]
      cases m with
      | nil => rfl
      | cons c t =>
        have : ([60, 47] : B).isPrefixOf (c :: t) = true := by simpa [pEnds] using hm
        rw [pItems, if_pos this]
  | .text c n, f, parent, deep, ns, m, p, hw, hc, hf, hm => by
    obtain ⟨h1, h2, h3⟩ := hw
    cases f with
    | zero => omega
    | succ f =>
      have hx : ¬ (60 : UInt8) = c := fun e => h2 e.symm
      simp only [textP, List.cons_append, nodesP, List.length_cons] at hf ⊢
      rw [pItems, if_neg (by simp [List.isPrefixOf, hx]), if_neg (by simp [noteBegin, List.isPrefixOf, hx]), if_neg (by simp [List.isPrefixOf, hx]), if_pos h1]
      rw [items_read n f parent deep ns m (p + 1) h3 hc (by omega) hm]
      congr 3; omega
  | .note x n, f, parent, deep, ns, m, p, hw, hc, hf, hm => by
    obtain ⟨h1, h3⟩ := hw
    cases f with
    | zero => omega
    | succ f =>
      have h4 : noteBegin.length = 4 := rfl
      have h5 : noteEnd.length = 3 := rfl
      simp only [textP, List.append_assoc, nodesP, List.length_append, h4, h5] at hf ⊢
      obtain ⟨r, hr⟩ : ∃ r, noteBegin ++ (x ++ (noteEnd ++ (textP n ++ m))) = 60 :: r := ⟨_, rfl⟩
      have hd : (noteBegin ++ (x ++ (noteEnd ++ (textP n ++ m)))).drop 4 = x ++ (noteEnd ++ (textP n ++ m)) := rfl
      have hd2 : (noteBegin ++ (x ++ (noteEnd ++ (textP n ++ m)))).drop (4 + x.length + 3) = textP n ++ m := by
        rw [show 4 + x.length + 3 = 4 + (x.length + 3) from by omega, ← List.drop_drop, hd, ← List.drop_drop, List.drop_left]
        rfl
      have hnot : ([60, 47] : B).isPrefixOf (noteBegin ++ (x ++ (noteEnd ++ (textP n ++ m)))) = false := by simp [noteBegin, List.isPrefixOf]
      have hyes := prefix_pos noteBegin (x ++ (noteEnd ++ (textP n ++ m)))
      rw [hr] at hd hd2 hnot hyes ⊢
      rw [pItems, hnot, if_neg (by simp), if_pos hyes, hd, find_ext (by simp [noteEnd]) h1]
      simp only
      rw [hd2, items_read n f parent deep ns m _ h3 hc (by omega) hm]
      congr 3; omega
  | .elem nm al kids n, f, parent, deep, ns, m, p, hw, hc, hf, hm => by
    obtain ⟨h1, h2, h3, h4, h5, h6⟩ := hw
    cases f with
    | zero => omega
    | succ f =>
      simp only [sizeP] at hc
      simp only [textP, List.append_assoc, nodesP, List.length_append] at hf ⊢
      obtain ⟨c, r, hr, hcl⟩ := open_head nm al h2 (textP kids ++ (closeText nm ++ (textP n ++ m)))
      have hol : 0 < (openText nm al).length := by simp [openText]
      have hop := open_read h2 h4 h1 (by omega : ns.length ≠ 120) parent (textP kids ++ (closeText nm ++ (textP n ++ m))) p
      obtain ⟨n1, n2, n3⟩ := not_close (t := r) hcl
      rw [hr] at hop ⊢
      rw [pItems, n1, if_neg (by simp), n2, if_neg (by simp), n3, if_pos rfl]
      have hk := items_read kids f (ns.length : Int) (deep + 1) (ns ++ [⟨nm, parent, attrsAt (p + 1 + nm.length) al, ((p + 1 + nm.length : Nat) : Int), 0, 0⟩]) (closeText nm ++ (textP n ++ m)) (p + (openText nm al).length) h5 (by simp; omega) (by omega) (close_ends _ _)
      have hel : pElem (pItems f) parent deep ns (60 :: c :: r) p = .ok (ns ++ [⟨nm, parent, attrsAt (p + 1 + nm.length) al, ((p + 1 + nm.length : Nat) : Int), 0, 0⟩] ++ nodesP (ns.length : Int) (ns.length + 1) (p + (openText nm al).length) kids, textP n ++ m, p + (openText nm al).length + (textP kids).length + (closeText nm).length) := by
        unfold pElem
        rw [then_of hop]
        simp only
        unfold pInside
        simp only
        rw [if_neg h3, then_of hk]
        simp only
        have : closeText nm ++ (textP n ++ m) = ([60, 47] ++ nm ++ [62]) ++ (textP n ++ m) := by simp [closeText]
        rw [this, then_of (pMust_read _ _ _)]
        simp [closeText]
      rw [then_of hel]
      simp only
      rw [items_read n f parent deep _ m _ h6 (by simp [nodesP_len]; omega) (by omega) hm]
      simp only [List.append_assoc, List.length_append, List.length_cons, List.length_nil, nodesP_len, List.cons_append, List.nil_append]
      rw [show ns.length + (sizeP kids + 1) = ns.length + 1 + sizeP kids from by omega]
      congr 3; omega
  | .style al inner n, f, parent, deep, ns, m, p, hw, hc, hf, hm => by
    obtain ⟨h1, h4, h5, h6⟩ := hw
    have h2 : NameOk styleName := ⟨by decide, by decide, by decide⟩
    cases f with
    | zero => omega
    | succ f =>
      simp only [sizeP] at hc
      simp only [textP, List.append_assoc, nodesP, List.length_append] at hf ⊢
      obtain ⟨c, r, hr, hcl⟩ := open_head styleName al h2 (inner ++ (closeText styleName ++ (textP n ++ m)))
      have hol : 0 < (openText styleName al).length := by simp [openText]
      have hop := open_read h2 h4 h1 (by omega : ns.length ≠ 120) parent (inner ++ (closeText styleName ++ (textP n ++ m))) p
      obtain ⟨n1, n2, n3⟩ := not_close (t := r) hcl
      rw [hr] at hop ⊢
      rw [pItems, n1, if_neg (by simp), n2, if_neg (by simp), n3, if_pos rfl]
      have hfs : findSub styleEnd (inner ++ (closeText styleName ++ (textP n ++ m))) = some inner.length := find_ext (w := styleEnd) (by simp [styleEnd]) h5
      have hel : pElem (pItems f) parent deep ns (60 :: c :: r) p = .ok (ns ++ [⟨styleName, parent, attrsAt (p + 1 + styleName.length) al, ((p + 1 + styleName.length : Nat) : Int), ((p + (openText styleName al).length : Nat) : Int), ((p + (openText styleName al).length + inner.length : Nat) : Int)⟩], textP n ++ m, p + (openText styleName al).length + inner.length + (closeText styleName).length) := by
        unfold pElem
        rw [then_of hop]
        simp only
        unfold pInside
        simp only
        rw [if_pos trivial, hfs]
        simp only [Ans.ok_then]
        have : (inner ++ (closeText styleName ++ (textP n ++ m))).drop inner.length = ([60, 47] ++ styleName ++ [62]) ++ (textP n ++ m) := by simp [closeText]
        rw [this, then_of (pMust_read _ _ _)]
        simp [closeText]
      rw [then_of hel]
      simp only
      rw [items_read n f parent deep _ m _ h6 (by simp; omega) (by omega) hm]
      simp only [List.append_assoc, List.length_append, List.length_cons, List.length_nil, List.cons_append, List.nil_append, Nat.zero_add]
      congr 3; omega
theorem note_find {l : B} {e : Nat} {w : B} (hw : w ≠ []) (h : findSub w l = some e) : ∃ x r, x.length = e ∧ l = x ++ (w ++ r) ∧ findSub w (x ++ w) = some x.length := by
  obtain ⟨r, hr⟩ := findSub_at h
  have hle := findSub_le _ _ _ h
  have hx : (l.take e).length = e := by simp; omega
  refine ⟨l.take e, r, hx, by rw [← List.append_assoc]; exact hr, ?_⟩
  have := findSub_take hw [] h
  rw [List.append_nil] at this
  have e1 : l.take (e + w.length) = l.take e ++ w := by
    conv => lhs; rw [hr]
    rw [List.take_append_of_le_length (by simp [hx])]
    rw [List.take_of_length_le (by simp [hx])]
  rw [e1] at this
  rw [hx]; exact this
theorem items_inv : ∀ (f : Nat) (parent : Int) (deep : Nat) (ns : List PNode) (l : B) (p : Nat) (ns' : List PNode) (l' : B) (p' : Nat), pItems f parent deep ns l p = .ok (ns', l', p') → ns.length ≤ 120 →
    ∃ T : PT, wfP deep T ∧ l = textP T ++ l' ∧ p' = p + (textP T).length ∧ ns' = ns ++ nodesP parent ns.length p T ∧ pEnds l' = true ∧ ns'.length ≤ 120 := by
  intro f
  induction f with
  | zero => intro parent deep ns l p ns' l' p' h; cases h
  | succ f ih =>
    intro parent deep ns l p ns' l' p' h hn
    cases l with
    | nil => cases h; exact ⟨.nil, trivial, rfl, rfl, by simp [nodesP], rfl, hn⟩
    | cons c t =>
      rw [pItems] at h
      split at h
      · rename_i hp
        cases h
        exact ⟨.nil, trivial, rfl, rfl, by simp [nodesP], by simp [pEnds, hp], hn⟩
      · rename_i hp1
        split at h
        · rename_i hp
          obtain ⟨r, hr⟩ := List.isPrefixOf_iff_prefix.1 hp
          rw [← hr] at h ⊢
          have hd : (noteBegin ++ r).drop 4 = r := rfl
          rw [hd] at h
          split at h
          · cases h
          · rename_i e hf
            obtain ⟨x, r2, rfl, rfl, hx⟩ := note_find (by simp [noteEnd]) hf
            have hd2 : (noteBegin ++ (x ++ (noteEnd ++ r2))).drop (4 + x.length + 3) = r2 := by
              rw [show 4 + x.length + 3 = 4 + (x.length + 3) from by omega, ← List.drop_drop, hd, ← List.drop_drop, List.drop_left]
              rfl
            rw [hd2] at h
            obtain ⟨T, h1, rfl, rfl, rfl, h5, h6⟩ := ih _ _ _ _ _ _ _ _ h hn
            have h4 : noteBegin.length = 4 := rfl
            have h7 : noteEnd.length = 3 := rfl
            exact ⟨.note x T, ⟨hx, h1⟩, by simp [textP], by simp [textP, h4, h7]; omega, rfl, h5, h6⟩
        · rename_i hp2
          split at h
          · rename_i hp3
            obtain ⟨⟨ns1, l1, p1⟩, h1, h⟩ := then_ok h
            unfold pElem at h1
            obtain ⟨⟨n, l2, p2⟩, h2, h1⟩ := then_ok h1
            obtain ⟨hd, hc, nm, al, hnm, hal, hl, rfl, rfl⟩ := open_inv h2
            obtain ⟨⟨ns3, l3, p3⟩, h3, h1⟩ := then_ok h1
            obtain ⟨⟨l4, p4⟩, h4, h1⟩ := then_ok h1
            obtain ⟨e4, e5, _⟩ := must_loc h4
            simp only at e4 e5
            cases h1
            unfold pInside at h3
            simp only at h3
            split at h3
            · rename_i hst
              split at h3
              · cases h3
              · rename_i e hf
                obtain ⟨x, r2, rfl, hl2, hx⟩ := note_find (by simp [styleEnd]) hf
                cases h3
                obtain ⟨T, t1, rfl, rfl, rfl, t5, t6⟩ := ih _ _ _ _ _ _ _ _ h (by simp; omega)
                rw [hst] at e4 hl e5 hnm t6 ⊢
                refine ⟨.style al x T, ⟨hd, hal, hx, t1⟩, ?_, ?_, ?_, t5, t6⟩
                · rw [hl]
                  have : l2 = x ++ (closeText styleName ++ (textP T ++ l')) := by
                    conv => lhs; rw [← List.take_append_drop x.length l2, e4]
                    rw [hl2, List.take_left]
                    simp [closeText]
                  rw [this]; simp [textP]
                · rw [e5]; simp [textP, closeText]; omega
                · rw [e5]
                  simp only [nodesP, List.append_assoc, List.length_append, List.length_cons, List.length_nil, List.cons_append, List.nil_append, Nat.zero_add]
                  congr 3
            · rename_i hst
              subst e4 e5
              obtain ⟨K, k1, rfl, rfl, rfl, k5, k6⟩ := ih _ _ _ _ _ _ _ _ h3 (by simp; omega)
              obtain ⟨T, t1, rfl, rfl, rfl, t5, t6⟩ := ih _ _ _ _ _ _ _ _ h k6
              refine ⟨.elem nm al K T, ⟨hd, hnm, hst, hal, k1, t1⟩, ?_, ?_, ?_, t5, t6⟩
              · rw [hl]; simp [textP, closeText]
              · simp [textP, closeText]; omega
              · simp only [nodesP, List.append_assoc, List.length_append, List.length_cons, List.length_nil, nodesP_len, List.cons_append, List.nil_append, Nat.zero_add]
                rw [show ns.length + (sizeP K + 1) = ns.length + 1 + sizeP K from by omega]
                rw [show (closeText nm).length = nm.length + 1 + 1 + 1 from by simp [closeText]]
          · rename_i hp3
            split at h
            · rename_i hok
              obtain ⟨T, t1, rfl, rfl, rfl, t5, t6⟩ := ih _ _ _ _ _ _ _ _ h hn
              refine ⟨.text c T, ⟨hok, ?_, t1⟩, rfl, by simp [textP]; omega, rfl, t5, t6⟩
              rintro rfl
              exact hp3 (by simp [List.isPrefixOf])
            · cases h
theorem page_read {T : PT} (hw : wfP 1 T) (hl : (textP T).length ≤ 6000) (hc : sizeP T ≤ 120) : pParse (textP T) = .ok (nodesP (-1) 0 0 T) := by
  unfold pParse
  have := items_read T ((textP T).length + 1) (-1) 1 [] [] 0 hw (by simpa using hc) (by omega) rfl
  rw [List.append_nil] at this
  rw [if_neg (by omega), then_of this]
  simp
theorem page_inv {s : B} {ns : List PNode} (h : pParse s = .ok ns) : s.length ≤ 6000 ∧ ∃ T : PT, wfP 1 T ∧ sizeP T ≤ 120 ∧ s = textP T ∧ ns = nodesP (-1) 0 0 T := by
  unfold pParse at h
  split at h
  · cases h
  · rename_i hl
    obtain ⟨⟨ns1, l1, p1⟩, h1, h⟩ := then_ok h
    obtain ⟨T, t1, rfl, rfl, rfl, t5, t6⟩ := items_inv _ _ _ _ _ _ _ _ _ h1 (by simp)
    simp only at h
    split at h
    · rename_i he
      cases h
      subst he
      refine ⟨by omega, T, t1, by simpa [nodesP_len] using t6, by simp, by simp⟩
    · cases h
end Go.Proofs.YtplbdlgmjehckadGreatDoor

namespace Go.Proofs.YtplbdlgmjehckadGreatDoor
set_option linter.unusedVariables false
set_option linter.unusedSimpArgs false
def styleRules (s : B) : List PNode → Ans (List PRule)
  | [] => .ok []
  | n :: ns =>
    if n.name = styleName then
      match sParse (sub s n.inF.toNat n.inT.toNat) with
      | .bad f => .bad ⟨f.err, n.inF.toNat + f.pos⟩
      | .ok rs => (styleRules s ns).then fun qs => .ok (rs.map (PRule.shift n.inF.toNat) ++ qs)
    else styleRules s ns
def rulesBad (rs : List PRule) : Option Flt := (rs.find? fun r => (pAll r.decls).isNone).map fun r => ⟨5, r.lo.toNat⟩
def attrBad (a : PAttr) : Option Flt :=
  if a.name = styleName then
    match sDeclsOf a.val with
    | .bad f => some ⟨f.err, a.lo.toNat⟩
    | .ok ds => if (pAll ds).isNone then some ⟨5, a.lo.toNat⟩ else none
  else none
def nodesBad (l : List PNode) : Option Flt := (l.flatMap (·.attrs)).findSome? attrBad
def fRead (s : B) : Ans (List PNode × List PRule) :=
  (pParse s).then fun l => (styleRules s l).then fun rs =>
  if 60 < rs.length then .bad ⟨5, 0⟩ else
  match rulesBad rs with
  | some f => .bad f
  | none => match nodesBad l with
    | some f => .bad f
    | none => .ok (l, rs)
def plainOf (r : PRule) : List PDecl := (pAll r.decls).getD []
def touchAt (l : List PNode) (r : PRule) (k : Nat) : List (Nat × B) := if (mBest l (k : Int) r.sels).2 then (plainOf r).map fun d => (k, d.name) else []
def touches (l : List PNode) (r : PRule) : List (Nat × B) := (List.range l.length).flatMap (touchAt l r)
theorem mem_touches {l : List PNode} {r : PRule} {k : Nat} {n : B} : (k, n) ∈ touches l r ↔ k < l.length ∧ (mBest l (k : Int) r.sels).2 = true ∧ ∃ d ∈ plainOf r, d.name = n := by
  unfold touches touchAt
  simp only [List.mem_flatMap, List.mem_range]
  constructor
  · rintro ⟨j, hj, h⟩
    split at h
    · rename_i hb
      obtain ⟨d, hd, he⟩ := List.mem_map.1 h
      cases he
      exact ⟨hj, hb, d, hd, rfl⟩
    · cases h
  · rintro ⟨hj, hb, d, hd, rfl⟩
    refine ⟨k, hj, ?_⟩
    rw [if_pos hb]
    exact List.mem_map.2 ⟨d, hd, rfl⟩
inductive Stay (l : List PNode) (rules : List PRule) : Nat → Prop
  | media {i : Nat} {r : PRule} (h : rules[i]? = some r) (hm : r.media ≠ []) : Stay l rules i
  | meet {i j : Nat} {r q : PRule} {p : Nat × B} (hi : rules[i]? = some r) (hj : rules[j]? = some q) (hs : Stay l rules j) (h1 : p ∈ touches l r) (h2 : p ∈ touches l q) : Stay l rules i
structure IsStays (l : List PNode) (rules : List PRule) (st : List Bool) : Prop where
  len : st.length = rules.length
  iff : ∀ i b, st[i]? = some b → (b = true ↔ Stay l rules i)
theorem IsStays.unique {l : List PNode} {rules : List PRule} {st su : List Bool} (h : IsStays l rules st) (g : IsStays l rules su) : st = su := by
  apply List.ext_getElem?
  intro i
  by_cases hi : i < rules.length
  · have h1 := List.getElem?_eq_getElem (show i < st.length by rw [h.len]; exact hi)
    have g1 := List.getElem?_eq_getElem (show i < su.length by rw [g.len]; exact hi)
    have h2 := h.iff _ _ h1
    have g2 := g.iff _ _ g1
    rw [h1, g1]
    congr 1
    rw [Bool.eq_iff_iff, h2, g2]
  · rw [List.getElem?_eq_none (by rw [h.len]; omega), List.getElem?_eq_none (by rw [g.len]; omega)]
structure PEdit where
  lo : Nat
  hi : Nat
  text : B
  deriving DecidableEq
def editsF (s : B) : Nat → List PEdit → B
  | a, [] => s.drop a
  | a, e :: es => sub s a e.lo ++ (e.text ++ editsF s e.hi es)
def EdOk (s : B) : Nat → List PEdit → Prop
  | a, [] => a ≤ s.length
  | a, e :: es => a ≤ e.lo ∧ e.lo ≤ e.hi ∧ e.hi ≤ s.length ∧ EdOk s e.hi es
def goneR : List PRule → List Bool → List PRule
  | r :: rs, b :: bs => if b then goneR rs bs else r :: goneR rs bs
  | _, _ => []
def goneEd (r : PRule) : PEdit := ⟨r.lo.toNat, r.hi.toNat, [32]⟩
def ownAt (n : PNode) : Int × Int := n.attrs.foldl (fun p a => if a.name = styleName then (a.lo, a.hi) else p) (n.nameEnd, n.nameEnd)
def styleHead : B := [32, 115, 116, 121, 108, 101, 61, 34]
def fOwn (n : PNode) (text : B) : Option PEdit :=
  if (pGet n.attrs styleName).2 = true ∧ (pGet n.attrs styleName).1 = text ∨ (pGet n.attrs styleName).2 = false ∧ text = [] then none
  else some ⟨(ownAt n).1.toNat, (ownAt n).2.toNat, if text = [] then [] else styleHead ++ text ++ [34]⟩
def styleText (l : List PNode) (k : Nat) (gone : List PRule) : B × Bool := match cDeclared l (k : Int) gone [] with
  | .bad _ => ([], true)
  | .ok look => (sPrint look, decide (look.length ≤ 20))
def ownsEd (l : List PNode) (gone : List PRule) : Nat → List PNode → Ans (List PEdit)
  | _, [] => .ok []
  | k, n :: ns =>
    if (styleText l k gone).2 = false ∨ (pGet n.attrs styleName).2 = false ∧ n.attrs.length = 8 ∧ (styleText l k gone).1 ≠ [] then .bad ⟨5, n.nameEnd.toNat⟩
    else (ownsEd l gone (k + 1) ns).then fun es => .ok ((fOwn n (styleText l k gone).1).toList ++ es)
def insEd (e : PEdit) : List PEdit → List PEdit
  | [] => [e]
  | x :: xs => if e.lo ≤ x.lo then e :: x :: xs else x :: insEd e xs
def sortEd : List PEdit → List PEdit
  | [] => []
  | e :: es => insEd e (sortEd es)
def fFold (s : B) (l : List PNode) (rules : List PRule) (st : List Bool) : Ans B :=
  (ownsEd l (goneR rules st) 0 l).then fun es =>
  if 6000 < (editsF s 0 (sortEd ((goneR rules st).map goneEd ++ es))).length then .bad ⟨4, 0⟩ else .ok (editsF s 0 (sortEd ((goneR rules st).map goneEd ++ es)))
inductive EdRise : List PEdit → Prop
  | nil : EdRise []
  | cons {x : PEdit} {xs : List PEdit} (h : ∀ y ∈ xs, x.lo < y.lo) (hs : EdRise xs) : EdRise (x :: xs)
theorem insEd_perm (e : PEdit) : ∀ xs, (insEd e xs).Perm (e :: xs)
  | [] => .refl _
  | x :: xs => by
    simp only [insEd]
    split
    · exact .refl _
    · exact ((insEd_perm e xs).cons x).trans (.swap e x xs)
theorem sortEd_perm : ∀ xs, (sortEd xs).Perm xs
  | [] => .refl _
  | x :: xs => (insEd_perm x _).trans ((sortEd_perm xs).cons x)
theorem EdRise.unique : ∀ {xs ys : List PEdit}, EdRise xs → EdRise ys → xs.Perm ys → xs = ys
  | [], ys, _, _, h => (List.nil_perm.1 h).symm
  | x :: xs, [], _, _, h => absurd h.length_eq (by simp)
  | x :: xs, y :: ys, .cons h1 h2, .cons g1 g2, h => by
    have e : x = y := by
      rcases List.mem_cons.1 (h.mem_iff.1 (List.mem_cons_self (a := x) (l := xs))) with e | e
      · exact e
      · rcases List.mem_cons.1 (h.mem_iff.2 (List.mem_cons_self (a := y) (l := ys))) with e' | e'
        · exact e'.symm
        · have := h1 y e'; have := g1 x e; omega
    subst e
    rw [EdRise.unique h2 g2 (List.Perm.cons_inv h)]
theorem rise_of_sorted : ∀ {xs : List PEdit}, xs.Pairwise (fun a b => a.lo ≤ b.lo) → (xs.map (·.lo)).Nodup → EdRise xs
  | [], _, _ => .nil
  | x :: xs, h, hn => by
    rw [List.pairwise_cons] at h
    rw [List.map_cons, List.nodup_cons] at hn
    refine .cons (fun y hy => ?_) (rise_of_sorted h.2 hn.2)
    have h1 := h.1 y hy
    have h2 : x.lo ≠ y.lo := fun e => hn.1 (by rw [e]; exact List.mem_map.2 ⟨y, hy, rfl⟩)
    omega
theorem insEd_sorted (e : PEdit) : ∀ {xs : List PEdit}, xs.Pairwise (fun a b => a.lo ≤ b.lo) → (insEd e xs).Pairwise (fun a b => a.lo ≤ b.lo)
  | [], _ => by simp [insEd]
  | x :: xs, h => by
    have h' := h
    rw [List.pairwise_cons] at h
    simp only [insEd]
    split
    · rename_i hle
      rw [List.pairwise_cons]
      refine ⟨fun y hy => ?_, h'⟩
      rcases List.mem_cons.1 hy with rfl | hy
      · exact hle
      · have := h.1 y hy; omega
    · rename_i hle
      rw [List.pairwise_cons]
      refine ⟨fun y hy => ?_, insEd_sorted e h.2⟩
      rcases List.mem_cons.1 ((insEd_perm e xs).mem_iff.1 hy) with rfl | hy
      · omega
      · exact h.1 y hy
theorem sortEd_sorted : ∀ xs : List PEdit, (sortEd xs).Pairwise (fun a b => a.lo ≤ b.lo)
  | [] => .nil
  | x :: xs => insEd_sorted x (sortEd_sorted xs)
theorem sortEd_eq {xs ys : List PEdit} (hr : EdRise ys) (hp : ys.Perm xs) : sortEd xs = ys := by
  refine EdRise.unique (rise_of_sorted (sortEd_sorted xs) ?_) hr ((sortEd_perm xs).trans hp.symm)
  have h1 : ((sortEd xs).map (·.lo)).Perm (ys.map (·.lo)) := ((sortEd_perm xs).trans hp.symm).map _
  rw [h1.nodup_iff]
  clear h1 hp
  induction hr with
  | nil => simp
  | cons h hs ih =>
    rw [List.map_cons, List.nodup_cons]
    refine ⟨fun hm => ?_, ih⟩
    obtain ⟨y, hy, he⟩ := List.mem_map.1 hm
    have := h y hy
    omega
end Go.Proofs.YtplbdlgmjehckadGreatDoor

namespace Go.Proofs.YtplbdlgmjehckadGreatDoor
set_option linter.unusedVariables false
set_option linter.unusedSimpArgs false
def rulesOf (inner : B) : List PRule := match sParse inner with
  | .ok rs => rs
  | .bad _ => []
def hasStyle (al : List (B × B)) : Bool := al.any fun a => a.1 == styleName
def setStyle (al : List (B × B)) (t : B) : List (B × B) :=
  if hasStyle al = true then (if t = [] then al.filter (fun a => !(a.1 == styleName) || a.2.isEmpty) else al.map fun a => if a.1 = styleName then (a.1, t) else a)
  else if t = [] then al else (styleName, t) :: al
def nRulesP : PT → Nat
  | .nil => 0
  | .text _ n => nRulesP n
  | .note _ n => nRulesP n
  | .elem _ _ kids n => nRulesP kids + nRulesP n
  | .style _ inner n => (rulesOf inner).length + nRulesP n
def foldP (tx : Nat → B) (g : Nat → Bool) : Nat → Nat → PT → PT
  | _, _, .nil => .nil
  | c, i, .text x n => .text x (foldP tx g c i n)
  | c, i, .note x n => .note x (foldP tx g c i n)
  | c, i, .elem nm al kids n => .elem nm (setStyle al (tx c)) (foldP tx g (c + 1) i kids) (foldP tx g (c + 1 + sizeP kids) (i + nRulesP kids) n)
  | c, i, .style al inner n => .style (setStyle al (tx c)) (splice (fun _ => [32]) g inner i 0 (rulesOf inner)) (foldP tx g (c + 1) (i + (rulesOf inner).length) n)
def newStyle (t : B) : B := styleHead ++ t ++ [34]
def attrEdF (t : B) : Nat → List (B × B) → List PEdit
  | _, [] => []
  | q, a :: al => if a.1 = styleName then (if a.2 = t then [] else [⟨q, q + (attrText a).length, if t = [] then [] else newStyle t⟩]) else attrEdF t (q + (attrText a).length) al
def attrEd (t : B) (q : Nat) (al : List (B × B)) : List PEdit := if hasStyle al = true then attrEdF t q al else if t = [] then [] else [⟨q, q, newStyle t⟩]
def ruleEd (g : Nat → Bool) (d : Nat) : Nat → List PRule → List PEdit
  | _, [] => []
  | i, r :: rs => if g i then ⟨r.lo.toNat + d, r.hi.toNat + d, [32]⟩ :: ruleEd g d (i + 1) rs else ruleEd g d (i + 1) rs
def treeEd (tx : Nat → B) (g : Nat → Bool) : Nat → Nat → Nat → PT → List PEdit
  | _, _, _, .nil => []
  | c, i, p, .text _ n => treeEd tx g c i (p + 1) n
  | c, i, p, .note x n => treeEd tx g c i (p + (4 + x.length + 3)) n
  | c, i, p, .elem nm al kids n => attrEd (tx c) (p + 1 + nm.length) al ++ (treeEd tx g (c + 1) i (p + (openText nm al).length) kids ++
      treeEd tx g (c + 1 + sizeP kids) (i + nRulesP kids) (p + (openText nm al).length + (textP kids).length + (closeText nm).length) n)
  | c, i, p, .style al inner n => attrEd (tx c) (p + 1 + styleName.length) al ++ (ruleEd g (p + (openText styleName al).length) i (rulesOf inner) ++
      treeEd tx g (c + 1) (i + (rulesOf inner).length) (p + (openText styleName al).length + inner.length + (closeText styleName).length) n)
theorem EdOk.le {s : B} : ∀ {es : List PEdit} {a : Nat}, EdOk s a es → a ≤ s.length
  | [], _, h => h
  | _ :: _, _, ⟨h1, h2, h3, _⟩ => by omega
theorem EdOk.early {s : B} {a b : Nat} {es : List PEdit} (h : EdOk s b es) (hab : a ≤ b) : EdOk s a es := by
  cases es with
  | nil => exact Nat.le_trans hab h
  | cons e es => obtain ⟨h1, h2, h3, h4⟩ := h; exact ⟨by omega, h2, h3, h4⟩
theorem edits_from {s : B} {a b : Nat} {es : List PEdit} (h : EdOk s b es) (hab : a ≤ b) : editsF s a es = sub s a b ++ editsF s b es := by
  cases es with
  | nil => simp only [editsF]; exact (sub_to hab).symm
  | cons e es =>
    obtain ⟨h1, h2, h3, h4⟩ := h
    simp only [editsF]
    rw [← sub_append s hab h1, List.append_assoc]
structure Makes (s : B) (a b : Nat) (es : List PEdit) (t : B) : Prop where
  ok : ∀ more, EdOk s b more → EdOk s a (es ++ more)
  text : ∀ more, EdOk s b more → editsF s a (es ++ more) = t ++ editsF s b more
theorem Makes.cat {s : B} {a b c : Nat} {es fs : List PEdit} {t u : B} (h : Makes s a b es t) (g : Makes s b c fs u) : Makes s a c (es ++ fs) (t ++ u) where
  ok more hm := by rw [List.append_assoc]; exact h.ok _ (g.ok _ hm)
  text more hm := by rw [List.append_assoc, h.text _ (g.ok _ hm), g.text _ hm, List.append_assoc]
theorem Makes.none {s : B} {a b : Nat} (hab : a ≤ b) : Makes s a b [] (sub s a b) where
  ok more hm := by rw [List.nil_append]; exact hm.early hab
  text more hm := by rw [List.nil_append]; exact edits_from hm hab
theorem Makes.one {s : B} {a b : Nat} (hab : a ≤ b) (hb : b ≤ s.length) (t : B) : Makes s a b [⟨a, b, t⟩] t where
  ok more hm := ⟨Nat.le_refl _, hab, hb, hm⟩
  text more hm := by simp [editsF, sub_nil]
theorem Makes.plain {s p w q : B} (hs : s = p ++ (w ++ q)) : Makes s p.length (p.length + w.length) [] w := by
  have := Makes.none (s := s) (a := p.length) (b := p.length + w.length) (by omega)
  rw [show sub s p.length (p.length + w.length) = w from by rw [hs, sub_mid]] at this
  exact this
theorem styleText_eq (t : B) : attrText (styleName, t) = newStyle t := by simp [attrText, newStyle, styleHead, styleName]
theorem noStyle_filter {al : List (B × B)} (h : hasStyle al = false) : al.filter (fun a => !(a.1 == styleName) || a.2.isEmpty) = al := by
  unfold hasStyle at h
  rw [List.filter_eq_self]
  intro a ha
  have := List.any_eq_false.1 h a ha
  simp only [beq_iff_eq] at this
  simp [this]
theorem noStyle_map {al : List (B × B)} (t : B) (h : hasStyle al = false) : al.map (fun a => if a.1 = styleName then (a.1, t) else a) = al := by
  unfold hasStyle at h
  conv => rhs; rw [← List.map_id al]
  apply List.map_congr_left
  intro a ha
  have := List.any_eq_false.1 h a ha
  rw [if_neg (by simpa using this)]; rfl
theorem hasStyle_cons (a : B × B) (al : List (B × B)) : hasStyle (a :: al) = (a.1 == styleName || hasStyle al) := rfl
theorem noStyle_of {al : List (B × B)} (h : styleName ∉ al.map (·.1)) : hasStyle al = false := by
  unfold hasStyle
  rw [List.any_eq_false]
  intro a ha
  simp only [beq_iff_eq]
  rintro e
  exact h (by rw [← e]; exact List.mem_map.2 ⟨a, ha, rfl⟩)
theorem attrEdF_makes {s : B} (t : B) : ∀ (al : List (B × B)) (p q : B), s = p ++ (attrsText al ++ q) → (al.map (·.1)).Nodup → hasStyle al = true →
    Makes s p.length (p.length + (attrsText al).length) (attrEdF t p.length al) (attrsText (setStyle al t))
  | [], p, q, _, _, h => by cases h
  | a :: al, p, q, hs, hn, h => by
    rw [List.map_cons, List.nodup_cons] at hn
    simp only [attrsText, List.append_assoc] at hs
    have hlen : p.length + (attrsText (a :: al)).length = p.length + (attrText a).length + (attrsText al).length := by simp [attrsText]; omega
    have hs2 : s = (p ++ attrText a) ++ (attrsText al ++ q) := by rw [hs]; simp
    have hpl : (p ++ attrText a).length = p.length + (attrText a).length := by simp
    rw [hlen]
    by_cases ha : a.1 = styleName
    · have hno : hasStyle al = false := noStyle_of (by rw [← ha]; exact hn.1)
      have htail : Makes s (p.length + (attrText a).length) (p.length + (attrText a).length + (attrsText al).length) [] (attrsText al) := by
        have := Makes.plain hs2
        rwa [hpl] at this
      simp only [attrEdF]
      rw [if_pos ha]
      split
      · rename_i hv
        have hset : setStyle (a :: al) t = a :: al := by
          unfold setStyle
          rw [if_pos h]
          split
          · rename_i ht
            simp only [List.filter_cons, hv, ht, List.isEmpty_nil, Bool.or_true, if_true, noStyle_filter hno]
          · simp only [List.map_cons, ha, if_true, noStyle_map t hno]
            rw [← hv, ← ha]
        have h1 : Makes s p.length (p.length + (attrText a).length) [] (attrText a) := Makes.plain hs
        have := h1.cat htail
        rw [hset]
        simpa [attrsText] using this
      · rename_i hv
        have hset : setStyle (a :: al) t = if t = [] then al else (styleName, t) :: al := by
          unfold setStyle
          rw [if_pos h]
          split
          · rename_i ht
            have : a.2.isEmpty = false := by rw [List.isEmpty_eq_false_iff]; rw [ht] at hv; exact hv
            simp only [List.filter_cons, ha, this, beq_self_eq_true, Bool.not_true, Bool.or_self, Bool.false_eq_true, if_false]
            exact noStyle_filter hno
          · simp only [List.map_cons, ha, if_true]
            rw [noStyle_map t hno]
        have hb : p.length + (attrText a).length ≤ s.length := by rw [hs]; simp
        have := (Makes.one (s := s) (a := p.length) (b := p.length + (attrText a).length) (by omega) hb (if t = [] then [] else newStyle t)).cat htail
        rw [List.append_nil] at this
        rw [hset]
        split
        · rename_i ht
          rw [if_pos ht] at this
          exact this
        · rename_i ht
          rw [if_neg ht] at this
          simp only [attrsText, styleText_eq]
          exact this
    · have h' : hasStyle al = true := by
        rw [hasStyle_cons] at h
        simpa [ha] using h
      have hset : setStyle (a :: al) t = a :: setStyle al t := by
        unfold setStyle
        rw [if_pos h, if_pos h']
        split
        · simp [List.filter_cons, ha]
        · simp [ha]
      have h1 : Makes s p.length (p.length + (attrText a).length) [] (attrText a) := Makes.plain hs
      have h2 := attrEdF_makes t al (p ++ attrText a) q hs2 hn.2 h'
      rw [hpl] at h2
      have := h1.cat h2
      simp only [attrEdF]
      rw [if_neg ha, hset]
      simp only [attrsText]
      exact this
theorem attr_makes {s : B} (t : B) {al : List (B × B)} {p q : B} (hs : s = p ++ (attrsText al ++ q)) (hn : (al.map (·.1)).Nodup) : Makes s p.length (p.length + (attrsText al).length) (attrEd t p.length al) (attrsText (setStyle al t)) := by
  unfold attrEd
  split
  · rename_i h
    exact attrEdF_makes t al p q hs hn h
  · rename_i h
    have h1 : Makes s p.length (p.length + (attrsText al).length) [] (attrsText al) := Makes.plain hs
    unfold setStyle
    rw [if_neg h]
    split
    · exact h1
    · have hb : p.length ≤ s.length := by rw [hs]; simp
      have := (Makes.one (s := s) (a := p.length) (b := p.length) (by omega) hb (newStyle t)).cat h1
      simpa [attrsText, styleText_eq] using this
theorem open_makes {s : B} (t : B) {nm : B} {al : List (B × B)} {p q : B} (hs : s = p ++ (openText nm al ++ q)) (hn : (al.map (·.1)).Nodup) :
    Makes s p.length (p.length + (openText nm al).length) (attrEd t (p.length + 1 + nm.length) al) (openText nm (setStyle al t)) := by
  have e1 : s = p ++ (([60] ++ nm) ++ (attrsText al ++ ([62] ++ q))) := by rw [hs]; simp [openText]
  have e2 : s = (p ++ ([60] ++ nm)) ++ (attrsText al ++ ([62] ++ q)) := by rw [hs]; simp [openText]
  have e3 : s = (p ++ ([60] ++ nm) ++ attrsText al) ++ ([62] ++ q) := by rw [hs]; simp [openText]
  have m1 : Makes s p.length (p.length + ([60] ++ nm).length) [] ([60] ++ nm) := Makes.plain e1
  have m2 := attr_makes t e2 hn
  have m3 := Makes.plain e3
  have l2 : (p ++ ([60] ++ nm)).length = p.length + ([60] ++ nm).length := by simp
  have l3 : (p ++ ([60] ++ nm) ++ attrsText al).length = p.length + ([60] ++ nm).length + (attrsText al).length := by simp; omega
  rw [l3] at m3
  rw [l2] at m2
  have m := (m1.cat m2).cat m3
  rw [List.nil_append, List.append_nil] at m
  have ea : p.length + ([60] ++ nm).length = p.length + 1 + nm.length := by simp; omega
  have eb : p.length + ([60] ++ nm).length + (attrsText al).length + ([62] : B).length = p.length + (openText nm al).length := by simp [openText]; omega
  rw [eb] at m
  rw [ea] at m
  have et : openText nm (setStyle al t) = ([60] ++ nm ++ attrsText (setStyle al t)) ++ [62] := by simp [openText]
  rw [et]
  exact m
theorem sub_in {s p w q : B} (hs : s = p ++ (w ++ q)) {a b : Nat} (hb : b ≤ w.length) : sub s (p.length + a) (p.length + b) = sub w a b := by
  unfold sub
  rw [hs, show p.length + b - (p.length + a) = b - a from by omega, ← List.drop_drop, List.drop_left]
  by_cases h : a ≤ w.length
  · rw [List.drop_append_of_le_length h, List.take_append_of_le_length (by simp; omega)]
  · rw [show b - a = 0 from by omega]; simp
theorem sub_end (w : B) (a : Nat) : sub w a w.length = w.drop a := by unfold sub; rw [List.take_of_length_le (by simp)]
theorem rule_makes {s : B} (g : Nat → Bool) {p w q : B} (hs : s = p ++ (w ++ q)) : ∀ (rs : List PRule) (i a : Nat), a ≤ w.length → Placed w a rs →
    Makes s (p.length + a) (p.length + w.length) (ruleEd g p.length i rs) (splice (fun _ => [32]) g w i a rs)
  | [], i, a, ha, _ => by
    have := Makes.none (s := s) (a := p.length + a) (b := p.length + w.length) (by omega)
    rw [sub_in hs (Nat.le_refl _), sub_end] at this
    exact this
  | r :: rs, i, a, ha, hp => by
    obtain ⟨lo, hi, h1, h2, h3, h4, h5, h6, h7⟩ := hp
    have hsl : s.length = p.length + (w.length + q.length) := by rw [hs]; simp
    simp only [ruleEd, splice]
    split
    · have m1 := Makes.none (s := s) (a := p.length + a) (b := p.length + lo) (by omega)
      rw [sub_in hs (by omega)] at m1
      have m2 := Makes.one (s := s) (a := p.length + lo) (b := p.length + hi) (by omega) (by omega) [32]
      have m3 := rule_makes g hs rs (i + 1) hi h5 h7
      have m := (m1.cat m2).cat m3
      rw [h1, h2, Int.toNat_natCast, Int.toNat_natCast, Nat.add_comm lo, Nat.add_comm hi]
      exact m
    · exact rule_makes g hs rs (i + 1) a ha (h7.early (by omega))
def okP : PT → Prop
  | .nil => True
  | .text _ n => okP n
  | .note _ n => okP n
  | .elem _ _ kids n => okP kids ∧ okP n
  | .style _ inner n => (∃ rs, sParse inner = .ok rs) ∧ okP n
theorem rulesOf_ok {inner : B} {rs : List PRule} (h : sParse inner = .ok rs) : rulesOf inner = rs := by unfold rulesOf; rw [h]
theorem tree_makes {s : B} (tx : Nat → B) (g : Nat → Bool) : ∀ (T : PT) (d c i : Nat) (p q : B), s = p ++ (textP T ++ q) → wfP d T → okP T →
    Makes s p.length (p.length + (textP T).length) (treeEd tx g c i p.length T) (textP (foldP tx g c i T))
  | .nil, d, c, i, p, q, hs, _, _ => by
    have := Makes.plain (w := []) (q := q) hs
    simpa [treeEd, foldP, textP] using this
  | .text x n, d, c, i, p, q, hs, hw, ho => by
    have e1 : s = p ++ ([x] ++ (textP n ++ q)) := by rw [hs]; simp [textP]
    have e2 : s = (p ++ [x]) ++ (textP n ++ q) := by rw [hs]; simp [textP]
    have m1 := Makes.plain e1
    have m2 := tree_makes tx g n d c i (p ++ [x]) q e2 hw.2.2 ho
    have l1 : (p ++ [x]).length = p.length + 1 := by simp
    rw [l1] at m2
    have m := m1.cat m2
    simp only [treeEd, foldP, textP, List.length_cons]
    rw [show p.length + ((textP n).length + 1) = p.length + 1 + (textP n).length from by omega]
    exact m
  | .note x n, d, c, i, p, q, hs, hw, ho => by
    have e1 : s = p ++ ((noteBegin ++ (x ++ noteEnd)) ++ (textP n ++ q)) := by rw [hs]; simp [textP]
    have e2 : s = (p ++ (noteBegin ++ (x ++ noteEnd))) ++ (textP n ++ q) := by rw [hs]; simp [textP]
    have m1 := Makes.plain e1
    have m2 := tree_makes tx g n d c i (p ++ (noteBegin ++ (x ++ noteEnd))) q e2 hw.2 ho
    have l0 : (noteBegin ++ (x ++ noteEnd)).length = 4 + x.length + 3 := by simp [noteBegin, noteEnd]; omega
    have l1 : (p ++ (noteBegin ++ (x ++ noteEnd))).length = p.length + (4 + x.length + 3) := by rw [List.length_append, l0]
    rw [l1] at m2
    rw [l0] at m1
    have m := m1.cat m2
    have et : textP (foldP tx g c i (.note x n)) = (noteBegin ++ (x ++ noteEnd)) ++ textP (foldP tx g c i n) := by simp [foldP, textP]
    have el : p.length + (textP (.note x n)).length = p.length + (4 + x.length + 3) + (textP n).length := by
      simp [textP, noteBegin, noteEnd]; omega
    rw [et, el]
    exact m
  | .elem nm al kids n, d, c, i, p, q, hs, hw, ho => by
    obtain ⟨h1, h2, h3, h4, h5, h6⟩ := hw
    have e1 : s = p ++ (openText nm al ++ (textP kids ++ (closeText nm ++ (textP n ++ q)))) := by rw [hs]; simp [textP]
    have e2 : s = (p ++ openText nm al) ++ (textP kids ++ (closeText nm ++ (textP n ++ q))) := by rw [hs]; simp [textP]
    have e3 : s = (p ++ openText nm al ++ textP kids) ++ (closeText nm ++ (textP n ++ q)) := by rw [hs]; simp [textP]
    have e4 : s = (p ++ openText nm al ++ textP kids ++ closeText nm) ++ (textP n ++ q) := by rw [hs]; simp [textP]
    have l2 : (p ++ openText nm al).length = p.length + (openText nm al).length := by simp
    have l3 : (p ++ openText nm al ++ textP kids).length = p.length + (openText nm al).length + (textP kids).length := by simp; omega
    have l4 : (p ++ openText nm al ++ textP kids ++ closeText nm).length = p.length + (openText nm al).length + (textP kids).length + (closeText nm).length := by simp; omega
    have m1 := open_makes (tx c) e1 h4.apart
    have m2 := tree_makes tx g kids _ (c + 1) i _ _ e2 h5 ho.1
    have m3 := Makes.plain e3
    have m4 := tree_makes tx g n _ (c + 1 + sizeP kids) (i + nRulesP kids) _ _ e4 h6 ho.2
    rw [l2] at m2
    rw [l3] at m3
    rw [l4] at m4
    have m := m1.cat (m2.cat (m3.cat m4))
    have el : p.length + (textP (.elem nm al kids n)).length = p.length + (openText nm al).length + (textP kids).length + (closeText nm).length + (textP n).length := by
      simp [textP]; omega
    rw [el]
    simp only [treeEd, foldP, textP]
    exact m
  | .style al inner n, d, c, i, p, q, hs, hw, ho => by
    obtain ⟨h1, h4, h5, h6⟩ := hw
    obtain ⟨⟨rs, hr⟩, ho⟩ := ho
    have e1 : s = p ++ (openText styleName al ++ (inner ++ (closeText styleName ++ (textP n ++ q)))) := by rw [hs]; simp [textP]
    have e2 : s = (p ++ openText styleName al) ++ (inner ++ (closeText styleName ++ (textP n ++ q))) := by rw [hs]; simp [textP]
    have e3 : s = (p ++ openText styleName al ++ inner) ++ (closeText styleName ++ (textP n ++ q)) := by rw [hs]; simp [textP]
    have e4 : s = (p ++ openText styleName al ++ inner ++ closeText styleName) ++ (textP n ++ q) := by rw [hs]; simp [textP]
    have l2 : (p ++ openText styleName al).length = p.length + (openText styleName al).length := by simp
    have l3 : (p ++ openText styleName al ++ inner).length = p.length + (openText styleName al).length + inner.length := by simp; omega
    have l4 : (p ++ openText styleName al ++ inner ++ closeText styleName).length = p.length + (openText styleName al).length + inner.length + (closeText styleName).length := by simp; omega
    have m1 := open_makes (tx c) e1 h4.apart
    have m2 := rule_makes g e2 rs i 0 (by omega) (parse_placed hr)
    have m3 := Makes.plain e3
    have m4 := tree_makes tx g n _ (c + 1) (i + rs.length) _ _ e4 h6 ho
    rw [l2, Nat.add_zero] at m2
    rw [l3] at m3
    rw [l4] at m4
    have m := m1.cat (m2.cat (m3.cat m4))
    have el : p.length + (textP (.style al inner n)).length = p.length + (openText styleName al).length + inner.length + (closeText styleName).length + (textP n).length := by
      simp [textP]; omega
    rw [el]
    simp only [treeEd, foldP, textP, rulesOf_ok hr]
    exact m
theorem page_makes (tx : Nat → B) (g : Nat → Bool) {T : PT} (hw : wfP 1 T) (ho : okP T) : EdOk (textP T) 0 (treeEd tx g 0 0 0 T) ∧ editsF (textP T) 0 (treeEd tx g 0 0 0 T) = textP (foldP tx g 0 0 T) := by
  have m := tree_makes (s := textP T) tx g T 1 0 0 [] [] (by simp) hw ho
  have h1 := m.ok [] (by simp [EdOk])
  have h2 := m.text [] (by simp [EdOk])
  simp only [List.append_nil, List.length_nil, Nat.zero_add, editsF] at h1 h2
  rw [List.drop_of_length_le (Nat.le_refl _), List.append_nil] at h2
  exact ⟨h1, h2⟩
end Go.Proofs.YtplbdlgmjehckadGreatDoor

