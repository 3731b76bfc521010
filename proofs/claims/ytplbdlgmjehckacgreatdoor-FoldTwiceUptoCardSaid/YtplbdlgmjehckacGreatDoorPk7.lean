/-
  Lemmas for the claims of this seat: the program's functions walked, and plain laws. In this order: FoOk FoRead FoLim.
-/
import Derived.Test.YtplbdlgmjehckacGreatDoorPk6
namespace Go.Proofs.YtplbdlgmjehckacGreatDoor
set_option linter.unusedVariables false
set_option linter.unusedSimpArgs false
def TestOk (t : PTest) : Prop := (t.kind = 4 ∨ t.kind = 5) → t.name ≠ styleName
def PartOk (p : PPart) : Prop := ∀ t ∈ p.tests, TestOk t
def SelOk (s : PSel) : Prop := ∀ p ∈ s, PartOk p
theorem attrTest_ok {l l' : B} {a a' : Nat} {t : PTest} (h : sAttrTest l a = .ok (t, l', a')) : TestOk t := by
  unfold sAttrTest at h
  obtain ⟨⟨nm, l1, a1⟩, h1, h⟩ := then_ok h
  simp only at h
  split at h
  · cases h
  · rename_i hn
    split at h
    · obtain ⟨⟨v, l2, a2⟩, h2, h⟩ := then_ok h
      obtain ⟨⟨l3, a3⟩, h3, h⟩ := then_ok h
      cases h; exact fun _ => hn
    · obtain ⟨⟨l3, a3⟩, h3, h⟩ := then_ok h
      cases h; exact fun _ => hn
theorem test_ok {l l' : B} {a a' : Nat} {t : PTest} (h : sTest l a = .ok (some t, l', a')) : TestOk t := by
  unfold sTest at h
  split at h
  · obtain ⟨⟨nm, l1, a1⟩, h1, h⟩ := then_ok h
    cases h; intro hk; simp at hk
  · split at h
    · obtain ⟨⟨nm, l1, a1⟩, h1, h⟩ := then_ok h
      cases h; intro hk; simp at hk
    · split at h
      · cases h; intro hk; simp at hk
      · split at h
        · obtain ⟨⟨t1, l1, a1⟩, h1, h⟩ := then_ok h
          cases h; exact attrTest_ok h1
        · cases h
theorem testsL_ok : ∀ (f : Nat) (ts : List PTest) (q : Bool) (l : B) (a : Nat) (v : List PTest) (l' : B) (a' : Nat), (∀ t ∈ ts, TestOk t) → sTestsL f ts q l a = .ok (v, l', a') → ∀ t ∈ v, TestOk t := by
  intro f
  induction f with
  | zero => intro ts q l a v l' a' _ h; cases h
  | succ f ih =>
    intro ts q l a v l' a' ht h
    rw [sTestsL] at h
    obtain ⟨⟨x, l1, a1⟩, h1, h⟩ := then_ok h
    cases x with
    | none =>
      simp only at h
      split at h
      · cases h; exact ht
      · cases h
    | some x =>
      simp only at h
      split at h
      · cases h
      · refine ih _ _ _ _ _ _ _ ?_ h
        intro t hm
        rcases List.mem_append.1 hm with hm | hm
        · exact ht t hm
        · simp at hm; subst hm; exact test_ok h1
theorem tests_ok {l l' : B} {a a' : Nat} {v : List PTest} (h : sTests l a = .ok (v, l', a')) : ∀ t ∈ v, TestOk t := by
  unfold sTests at h
  obtain ⟨⟨ts, q, l1, a1⟩, h1, h⟩ := then_ok h
  refine testsL_ok _ _ _ _ _ _ _ _ ?_ h
  unfold sHead at h1
  split at h1
  · cases h1; simp
  · split at h1
    · cases h1; simp
    · obtain ⟨⟨nm, l2, a2⟩, h2, h1⟩ := then_ok h1
      cases h1
      intro t ht
      simp at ht; subst ht
      intro hk; simp at hk
theorem selL_ok : ∀ (f : Nat) (ps : List PPart) (l : B) (a : Nat) (v : PSel) (l' : B) (a' : Nat), SelOk ps → sSelL f ps l a = .ok (v, l', a') → SelOk v := by
  intro f
  induction f with
  | zero => intro ps l a v l' a' _ h; cases h
  | succ f ih =>
    intro ps l a v l' a' ht h
    rw [sSelL] at h
    obtain ⟨⟨j, l1, a1⟩, h1, h⟩ := then_ok h
    cases j with
    | none => simp only at h; cases h; exact ht
    | some j =>
      simp only at h
      split at h
      · cases h
      · obtain ⟨⟨ts, l2, a2⟩, h2, h⟩ := then_ok h
        refine ih _ _ _ _ _ _ ?_ h
        intro p hp
        rcases List.mem_append.1 hp with hp | hp
        · exact ht p hp
        · simp at hp; subst hp; exact tests_ok h2
theorem sel_ok {l l' : B} {a a' : Nat} {v : PSel} (h : sSel l a = .ok (v, l', a')) : SelOk v := by
  unfold sSel at h
  obtain ⟨⟨ts, l1, a1⟩, h1, h⟩ := then_ok h
  refine selL_ok _ _ _ _ _ _ _ ?_ h
  intro p hp
  simp at hp; subst hp; exact tests_ok h1
theorem selsL_ok : ∀ (f : Nat) (ss : List PSel) (l : B) (a : Nat) (v : List PSel) (l' : B) (a' : Nat), (∀ s ∈ ss, SelOk s) → sSelsL f ss l a = .ok (v, l', a') → ∀ s ∈ v, SelOk s := by
  intro f
  induction f with
  | zero => intro ss l a v l' a' _ h; cases h
  | succ f ih =>
    intro ss l a v l' a' hs h
    rw [sSelsL] at h
    split at h
    · cases h
    · obtain ⟨⟨x, l1, a1⟩, h1, h⟩ := then_ok h
      have hx : ∀ s ∈ ss ++ [x], SelOk s := by
        intro s hm
        rcases List.mem_append.1 hm with hm | hm
        · exact hs s hm
        · simp at hm; subst hm; exact sel_ok h1
      simp only at h
      split at h
      · obtain ⟨⟨l2, a2⟩, h2, h⟩ := then_ok h
        exact ih _ _ _ _ _ _ hx h
      · cases h; exact hx
structure RuleOk (r : PRule) : Prop where
  sels : ∀ s ∈ r.sels, SelOk s
  decls : ∀ d ∈ r.decls, DeclOk d
theorem ruleT_ok {t : B} {ss : List PSel} {ds : List PDecl} (h : RuleT t ss ds) (md : B) (lo hi : Int) : RuleOk ⟨md, ss, ds, lo, hi⟩ := by
  have := h.read [] [] 0
  unfold sRule at this
  obtain ⟨⟨ss1, l1, a1⟩, h1, h⟩ := then_ok this
  obtain ⟨⟨l2, a2⟩, h2, h⟩ := then_ok h
  obtain ⟨⟨ds1, l3, a3⟩, h3, h⟩ := then_ok h
  obtain ⟨⟨l4, a4⟩, h4, h⟩ := then_ok h
  simp only [Ans.ok.injEq, Prod.mk.injEq, PRule.mk.injEq] at h
  obtain ⟨⟨_, rfl, rfl, _⟩, _⟩ := h
  exact ⟨selsL_ok _ _ _ _ _ _ _ (by simp) h1, (decls_ok_of h3).1⟩
theorem placed_ok {s : B} : ∀ {rs : List PRule} {a : Nat}, Placed s a rs → ∀ r ∈ rs, RuleOk r
  | [], _, _, r, hr => by cases hr
  | x :: rs, a, ⟨lo, hi, h1, h2, h3, h4, h5, h6, h7⟩, r, hr => by
    rcases List.mem_cons.1 hr with rfl | hr
    · exact ruleT_ok h6 r.media r.lo r.hi
    · exact placed_ok h7 r hr
theorem RuleOk.shift {r : PRule} (h : RuleOk r) (d : Nat) : RuleOk (r.shift d) := ⟨h.sels, h.decls⟩
theorem treeRules_ok : ∀ (T : PT) (p : Nat), okP T → ∀ r ∈ treeRules p T, RuleOk r
  | .nil, _, _, r, hr => by cases hr
  | .text _ n, p, ho, r, hr => treeRules_ok n _ ho r hr
  | .note _ n, p, ho, r, hr => treeRules_ok n _ ho r hr
  | .elem nm al kids n, p, ho, r, hr => by
    rcases List.mem_append.1 hr with hr | hr
    · exact treeRules_ok kids _ ho.1 r hr
    · exact treeRules_ok n _ ho.2 r hr
  | .style al inner n, p, ⟨⟨rs, hp⟩, ho⟩, r, hr => by
    rcases List.mem_append.1 hr with hr | hr
    · rw [rulesOf_ok hp] at hr
      obtain ⟨q, hq, rfl⟩ := List.mem_map.1 hr
      exact (placed_ok (parse_placed hp) q hq).shift _
    · exact treeRules_ok n _ ho r hr
theorem words_joinW : ∀ {ws : List B}, ws ≠ [] → (∀ w ∈ ws, WordOk w) → splitB (joinW ws) = ws := by
  have hj : ∀ ws : List B, joinW ws = joinB ws := by
    intro ws
    induction ws with
    | nil => rfl
    | cons w ws ih =>
      cases ws with
      | nil => rfl
      | cons x ws => simp only [joinW, joinB, ih]
  intro ws hn hw
  rw [hj]
  refine splitB_join hn fun w hm c hc => ?_
  have := (hw w hm).2 c hc
  rintro rfl
  exact absurd this (by decide)
theorem word_valOk {w : B} (h : WordOk w) (hl : w.length ≤ 60) : ValOk w := ⟨[w], by simp, by simpa using h, by simp [joinW], hl⟩
theorem joinW_le {ws : List B} {w : B} (h : w ∈ ws) : w.length ≤ (joinW ws).length := by
  induction ws with
  | nil => cases h
  | cons x ws ih =>
    cases ws with
    | nil => simp at h; subst h; simp [joinW]
    | cons y ws =>
      rcases List.mem_cons.1 h with rfl | h
      · simp [joinW]
      · have := ih h
        simp only [joinW, List.length_append] at this ⊢
        omega
theorem expand_ok {d : PDecl} {x : List PDecl} (hd : DeclOk d) (h : pExpand d = some x) : ∀ y ∈ x, DeclOk y := by
  unfold pExpand at h
  split at h
  · obtain ⟨ws, hn, hw, hv, hl⟩ := hd.2
    rw [hv, words_joinW hn hw] at h
    rw [hv] at hl
    have hall : ∀ w ∈ ws, ValOk w := fun w hm => word_valOk (hw w hm) (Nat.le_trans (joinW_le hm) hl)
    have hnm : NameOk edgeTop ∧ NameOk edgeRight ∧ NameOk edgeBottom ∧ NameOk edgeLeft := by
      refine ⟨⟨?_, ?_, ?_⟩, ⟨?_, ?_, ?_⟩, ⟨?_, ?_, ?_⟩, ⟨?_, ?_, ?_⟩⟩ <;> decide
    have hed : ∀ a b c e st, a ∈ ws → b ∈ ws → c ∈ ws → e ∈ ws → ∀ y ∈ edges a b c e st, DeclOk y := by
      intro a b c e st ha hb hc he y hy
      simp only [edges, List.mem_cons, List.not_mem_nil, or_false] at hy
      rcases hy with rfl | rfl | rfl | rfl
      · exact ⟨hnm.1, hall _ ha⟩
      · exact ⟨hnm.2.1, hall _ hb⟩
      · exact ⟨hnm.2.2.1, hall _ hc⟩
      · exact ⟨hnm.2.2.2, hall _ he⟩
    split at h
    all_goals first
      | (cases h; apply hed <;> simp)
      | cases h
  · cases h
    intro y hy
    simp at hy; subst hy; exact hd
theorem all_ok : ∀ {l x : List PDecl}, (∀ d ∈ l, DeclOk d) → pAll l = some x → ∀ y ∈ x, DeclOk y
  | [], x, _, h, y, hy => by cases h; cases hy
  | d :: ds, x, hd, h, y, hy => by
    obtain ⟨a, b, h1, h2, rfl⟩ := all_cons h
    rcases List.mem_append.1 hy with hy | hy
    · exact expand_ok (hd d (by simp)) h1 y hy
    · exact all_ok (fun z hz => hd z (by simp [hz])) h2 y hy
def pr (a : PAttr) : B × B := (a.name, a.val)
structure NodeRel (t : B) (n m : PNode) : Prop where
  name : m.name = n.name
  parent : m.parent = n.parent
  attrs : m.attrs.map pr = setStyle (n.attrs.map pr) t
def RelL (tx : Nat → B) : Nat → List PNode → List PNode → Prop
  | _, [], [] => True
  | c, x :: xs, y :: ys => NodeRel (tx c) x y ∧ RelL tx (c + 1) xs ys
  | _, _, _ => False
theorem RelL.app {tx : Nat → B} : ∀ {xs xs' ys ys' : List PNode} {c : Nat}, RelL tx c xs xs' → RelL tx (c + xs.length) ys ys' → RelL tx c (xs ++ ys) (xs' ++ ys')
  | [], [], _, _, _, _, h => h
  | [], _ :: _, _, _, _, h, _ => h.elim
  | _ :: _, [], _, _, _, h, _ => h.elim
  | x :: xs, y :: ys, _, _, c, ⟨h1, h2⟩, h => ⟨h1, RelL.app h2 (by rw [show c + 1 + xs.length = c + (x :: xs).length from by simp; omega]; exact h)⟩
theorem RelL.len {tx : Nat → B} : ∀ {xs ys : List PNode} {c : Nat}, RelL tx c xs ys → xs.length = ys.length
  | [], [], _, _ => rfl
  | [], _ :: _, _, h => h.elim
  | _ :: _, [], _, h => h.elim
  | x :: xs, y :: ys, c, ⟨_, h⟩ => by simp [h.len]
theorem RelL.get {tx : Nat → B} : ∀ {xs ys : List PNode} {c j : Nat} {n : PNode}, RelL tx c xs ys → xs[j]? = some n → ∃ m, ys[j]? = some m ∧ NodeRel (tx (c + j)) n m
  | [], [], _, _, _, _, h => by simp at h
  | [], _ :: _, _, _, _, h, _ => h.elim
  | _ :: _, [], _, _, _, h, _ => h.elim
  | x :: xs, y :: ys, c, 0, n, ⟨h, _⟩, hn => by
    simp only [List.getElem?_cons_zero, Option.some.injEq] at hn
    subst hn; exact ⟨y, rfl, h⟩
  | x :: xs, y :: ys, c, j + 1, n, ⟨_, h⟩, hn => by
    obtain ⟨m, h1, h2⟩ := h.get (j := j) (by simpa using hn)
    exact ⟨m, by simpa using h1, by rw [show c + (j + 1) = c + 1 + j from by omega]; exact h2⟩
theorem attrsAt_pr : ∀ (al : List (B × B)) (p : Nat), (attrsAt p al).map pr = al
  | [], _ => rfl
  | a :: al, p => by simp only [attrsAt, List.map_cons, attrsAt_pr al]; rfl
theorem size_fold (tx : Nat → B) (g : Nat → Bool) : ∀ (T : PT) (c i : Nat), sizeP (foldP tx g c i T) = sizeP T
  | .nil, _, _ => rfl
  | .text _ n, c, i => size_fold tx g n c i
  | .note _ n, c, i => size_fold tx g n c i
  | .elem _ _ kids n, c, i => by simp only [foldP, sizeP, size_fold tx g kids, size_fold tx g n]
  | .style _ _ n, c, i => by simp only [foldP, sizeP, size_fold tx g n]
theorem nodes_rel (tx : Nat → B) (g : Nat → Bool) : ∀ (T : PT) (c i p p' : Nat) (par : Int), RelL tx c (nodesP par c p T) (nodesP par c p' (foldP tx g c i T))
  | .nil, _, _, _, _, _ => trivial
  | .text _ n, c, i, p, p', par => nodes_rel tx g n c i _ _ par
  | .note _ n, c, i, p, p', par => nodes_rel tx g n c i _ _ par
  | .elem nm al kids n, c, i, p, p', par => by
    simp only [foldP, nodesP, size_fold]
    refine ⟨⟨rfl, rfl, by simp only [attrsAt_pr]⟩, RelL.app (nodes_rel tx g kids _ _ _ _ _) ?_⟩
    rw [nodesP_len]
    exact nodes_rel tx g n _ _ _ _ _
  | .style al inner n, c, i, p, p', par => by
    simp only [foldP, nodesP]
    exact ⟨⟨rfl, rfl, by simp only [attrsAt_pr]⟩, nodes_rel tx g n _ _ _ _ _⟩
def getP (al : List (B × B)) (name : B) : B × Bool := match al.find? (fun a => a.1 == name) with
  | some a => (a.2, true)
  | none => ([], false)
theorem pGet_pr (as : List PAttr) (name : B) : pGet as name = getP (as.map pr) name := by
  unfold pGet getP
  induction as with
  | nil => rfl
  | cons a as ih =>
    simp only [List.map_cons, List.find?_cons, pr]
    cases a.name == name with
    | true => rfl
    | false => exact ih
theorem getP_set {al : List (B × B)} {t name : B} (hn : name ≠ styleName) : getP (setStyle al t) name = getP al name := by
  have hb : (styleName == name) = false := by simpa using fun e => hn e.symm
  have hfilter : ∀ al : List (B × B), (al.filter (fun a => !(a.1 == styleName) || a.2.isEmpty)).find? (fun a => a.1 == name) = al.find? (fun a => a.1 == name) := by
    intro al
    induction al with
    | nil => rfl
    | cons a al ih =>
      by_cases ha : a.1 = styleName
      · have hc : (a.1 == name) = false := by rw [ha]; exact hb
        simp only [List.filter_cons]
        split
        · simp only [List.find?_cons, hc, ih]
        · simp only [List.find?_cons, hc, ih]
      · have : (!(a.1 == styleName) || a.2.isEmpty) = true := by simp [ha]
        simp only [List.filter_cons, this, if_true, List.find?_cons, ih]
  have hmap : ∀ al : List (B × B), getP (al.map fun a => if a.1 = styleName then (a.1, t) else a) name = getP al name := by
    intro al
    unfold getP
    induction al with
    | nil => rfl
    | cons a al ih =>
      simp only [List.map_cons, List.find?_cons]
      by_cases ha : a.1 = styleName
      · have hc : (a.1 == name) = false := by rw [ha]; exact hb
        simp only [ha, if_true, hb]
        rw [ha] at hc
        exact ih
      · simp only [ha, if_false]
        cases a.1 == name with
        | true => rfl
        | false => exact ih
  unfold setStyle
  split
  · split
    · unfold getP; rw [hfilter]
    · exact hmap al
  · split
    · rfl
    · unfold getP
      simp only [List.find?_cons, hb]
theorem NodeRel.get {t : B} {n m : PNode} (h : NodeRel t n m) {name : B} (hn : name ≠ styleName) : pGet m.attrs name = pGet n.attrs name := by
  rw [pGet_pr, pGet_pr, h.attrs, getP_set hn]
theorem RelL.none {tx : Nat → B} {xs ys : List PNode} {c j : Nat} (h : RelL tx c xs ys) (hx : xs[j]? = none) : ys[j]? = none := by
  rw [List.getElem?_eq_none_iff] at hx ⊢
  rw [← h.len]; exact hx
theorem rel_parent {tx : Nat → B} {l m : List PNode} (h : RelL tx 0 l m) (k : Nat) : parentOf m k = parentOf l k := by
  unfold parentOf
  cases hx : l[k]? with
  | none => rw [h.none hx]
  | some n =>
    obtain ⟨n', h1, h2⟩ := h.get hx
    rw [h1]; exact h2.parent
theorem rel_ups {tx : Nat → B} {l m : List PNode} (h : RelL tx 0 l m) (f k : Nat) : upsF m f k = upsF l f k := by
  induction f generalizing k with
  | zero => rfl
  | succ f ih => simp only [upsF, rel_parent h, ih]
theorem rel_last {tx : Nat → B} {l m : List PNode} (h : RelL tx 0 l m) (p : Int) (i : Nat) : lastWith m p i = lastWith l p i := by
  induction i with
  | zero => rfl
  | succ i ih =>
    simp only [lastWith]
    cases hx : l[i]? with
    | none => rw [h.none hx, ih]
    | some n =>
      obtain ⟨n', h1, h2⟩ := h.get hx
      rw [h1]
      simp only [Option.any_some, h2.parent, ih]
theorem rel_ahead {tx : Nat → B} {l m : List PNode} (h : RelL tx 0 l m) (k : Int) : pAhead m k = pAhead l k := by
  unfold pAhead
  rw [← h.len]
  split
  · rfl
  · cases hx : l[k.toNat]? with
    | none => rw [h.none hx]
    | some n =>
      obtain ⟨n', h1, h2⟩ := h.get hx
      rw [h1]
      simp only [h2.parent, rel_last h]
theorem rel_test {tx : Nat → B} {l m : List PNode} (h : RelL tx 0 l m) {t : PTest} (ht : TestOk t) (k : Nat) : mTest m k t = mTest l k t := by
  unfold mTest
  cases hx : l[k]? with
  | none => rw [h.none hx]
  | some n =>
    obtain ⟨n', h1, h2⟩ := h.get hx
    rw [h1]
    simp only
    unfold mTestN
    rw [h2.name, h2.get (show className ≠ styleName by decide), h2.get (show idName ≠ styleName by decide), rel_ahead h]
    by_cases hk : t.kind = 4 ∨ t.kind = 5
    · rw [h2.get (ht hk)]
    · rw [not_or] at hk
      simp only [hk.1, hk.2, if_false]
theorem rel_part {tx : Nat → B} {l m : List PNode} (h : RelL tx 0 l m) {p : PPart} (hp : PartOk p) (k : Nat) : mPart m k p = mPart l k p := by
  unfold mPart
  rw [Bool.eq_iff_iff]
  simp only [List.all_eq_true]
  constructor
  · intro hx t ht; rw [← rel_test h (hp t ht)]; exact hx t ht
  · intro hx t ht; rw [rel_test h (hp t ht)]; exact hx t ht
theorem rel_inR {tx : Nat → B} {l m : List PNode} (h : RelL tx 0 l m) (k : Int) : inR m k = inR l k := by unfold inR; rw [h.len]
theorem rel_at {tx : Nat → B} {l m : List PNode} (h : RelL tx 0 l m) : ∀ (ps : List PPart), (∀ p ∈ ps, PartOk p) → ∀ k, mAt m ps k = mAt l ps k
  | [], _, k => by simp only [mAt, rel_inR h]
  | p :: ps, hp, k => by
    have ih : mAt m ps = mAt l ps := funext (rel_at h ps fun q hq => hp q (by simp [hq]))
    simp only [mAt, rel_inR h, rel_part h (hp p (by simp)), ih]
    unfold mJoin
    rw [rel_parent h, rel_ahead h]
    unfold ups
    rw [rel_ups h]
theorem rel_matches {tx : Nat → B} {l m : List PNode} (h : RelL tx 0 l m) {s : PSel} (hs : SelOk s) (k : Int) : mMatches m k s = mMatches l k s := by
  unfold mMatches
  rw [rel_at h _ fun p hp => hs p (by simpa using hp)]
theorem rel_best {tx : Nat → B} {l m : List PNode} (h : RelL tx 0 l m) {sels : List PSel} (hs : ∀ s ∈ sels, SelOk s) (k : Int) : mBest m k sels = mBest l k sels := by
  unfold mBest
  generalize ((⟨0, 0, 0⟩, false) : PWt × Bool) = acc
  induction sels generalizing acc with
  | nil => rfl
  | cons s sels ih =>
    simp only [List.foldl_cons]
    rw [show bestStep m k acc s = bestStep l k acc s from by unfold bestStep; rw [rel_matches h (hs s (by simp))]]
    exact ih (fun x hx => hs x (by simp [hx])) _
end Go.Proofs.YtplbdlgmjehckacGreatDoor
namespace Go.Proofs.YtplbdlgmjehckacGreatDoor
set_option linter.unusedVariables false
set_option linter.unusedSimpArgs false
def NoIn (w x : B) : Prop := findSub w (x ++ w) = some x.length
theorem NoIn.tail {w : B} {x : UInt8} {y : B} (h : NoIn w (x :: y)) : w.isPrefixOf (x :: (y ++ w)) = false ∧ NoIn w y := by
  unfold NoIn at h ⊢
  simp only [List.cons_append, findSub, List.length_cons] at h
  split at h
  · simp at h
  · rename_i hp
    refine ⟨by rw [← Bool.not_eq_true]; exact hp, ?_⟩
    cases hf : findSub w (y ++ w) with
    | none => rw [hf] at h; cases h
    | some k => rw [hf] at h; simp at h; rw [h]
theorem NoIn.cons {w : B} {x : UInt8} {y : B} (h : w.isPrefixOf (x :: (y ++ w)) = false) (hy : NoIn w y) : NoIn w (x :: y) := by
  unfold NoIn at hy ⊢
  simp only [List.cons_append, findSub, List.length_cons, h, Bool.false_eq_true, if_false, hy, Option.map_some]
theorem NoIn.drop {w : B} : ∀ {a b : B}, NoIn w (a ++ b) → NoIn w b
  | [], _, h => h
  | x :: a, b, h => NoIn.drop (a := a) h.tail.2
theorem NoIn.gap {w : B} (hw : w ≠ []) (h32 : (32 : UInt8) ∉ w) : ∀ {a b c : B}, NoIn w (a ++ c) → NoIn w b → NoIn w (a ++ ([32] ++ b))
  | [], b, c, _, hb => by
    refine NoIn.cons ?_ hb
    rw [← Bool.not_eq_true]
    intro hp
    cases w with
    | nil => exact hw rfl
    | cons y w =>
      have := prefix_head hp
      exact h32 (by rw [this]; simp)
  | x :: a, b, c, ha, hb => by
    obtain ⟨h1, h2⟩ := ha.tail
    refine NoIn.cons ?_ (NoIn.gap hw h32 (a := a) h2 hb)
    rw [← Bool.not_eq_true] at h1 ⊢
    intro hp
    rw [List.isPrefixOf_iff_prefix] at hp h1
    by_cases hl : w.length ≤ (x :: a).length
    · refine h1 ?_
      have h3 : w <+: x :: a := List.prefix_of_prefix_length_le hp (by exact ⟨([32] ++ b) ++ w, by simp⟩) hl
      exact h3.trans ⟨c ++ w, by simp⟩
    · refine h32 ?_
      have h3 : (x :: a) ++ [32] <+: w := List.prefix_of_prefix_length_le (l₃ := x :: (a ++ ([32] ++ b) ++ w)) ⟨b ++ w, by simp⟩ hp (by simp at hl ⊢; omega)
      exact h3.subset (by simp)
theorem splice_noIn {w inner : B} (hw : w ≠ []) (h32 : (32 : UInt8) ∉ w) (g : Nat → Bool) (h : NoIn w inner) : ∀ (rs : List PRule) (i a : Nat), a ≤ inner.length → Placed inner a rs → NoIn w (splice (fun _ => [32]) g inner i a rs)
  | [], i, a, ha, _ => by
    simp only [splice]
    refine NoIn.drop (a := inner.take a) ?_
    rw [List.take_append_drop]; exact h
  | r :: rs, i, a, ha, ⟨lo, hi, h1, h2, h3, h4, h5, h6, h7⟩ => by
    simp only [splice]
    split
    · rw [List.append_assoc]
      refine NoIn.gap hw h32 (c := inner.drop lo) ?_ (splice_noIn hw h32 g h rs _ _ (by rw [h2, Int.toNat_natCast]; exact h5) (by rw [h2, Int.toNat_natCast]; exact h7))
      rw [h1, Int.toNat_natCast, sub_to h3]
      refine NoIn.drop (a := inner.take a) ?_
      rw [List.take_append_drop]; exact h
    · exact splice_noIn hw h32 g h rs _ _ ha (h7.early (by omega))
theorem splice_len (g : Nat → Bool) {w : B} : ∀ (rs : List PRule) (i a : Nat), a ≤ w.length → Placed w a rs → (splice (fun _ => [32]) g w i a rs).length + a ≤ w.length
  | [], i, a, ha, _ => by simp [splice]; omega
  | r :: rs, i, a, ha, ⟨lo, hi, h1, h2, h3, h4, h5, h6, h7⟩ => by
    simp only [splice]
    split
    · have := splice_len g rs (i + 1) hi h5 h7
      rw [h1, h2, Int.toNat_natCast, Int.toNat_natCast]
      have hs : (sub w a lo).length = lo - a := by unfold sub; simp; omega
      simp only [List.length_append, hs, List.length_cons, List.length_nil]
      omega
    · exact splice_len g rs (i + 1) a ha (h7.early (by omega))
theorem splice_shift (f : B → B) (g : Nat → Bool) (w : B) (i : Nat) : ∀ (rs : List PRule) (k a : Nat), splice f (fun j => g (i + j)) w k a rs = splice f g w (i + k) a rs
  | [], _, _ => rfl
  | r :: rs, k, a => by simp only [splice, splice_shift f g w i rs, Nat.add_assoc]
theorem keepP_shift {α : Type} (g : Nat → Bool) (i : Nat) : ∀ (rs : List α) (k : Nat), keepP (fun j => g (i + j)) k rs = keepP g (i + k) rs
  | [], _ => rfl
  | r :: rs, k => by simp only [keepP, keepP_shift g i rs, Nat.add_assoc]
structure AttrCond (al : List (B × B)) (t : B) : Prop where
  val : ∀ c ∈ t, isVal c = true
  few : hasStyle al = false → al.length = 8 → t = []
theorem hasStyle_iff {al : List (B × B)} : hasStyle al = true ↔ styleName ∈ al.map (·.1) := by
  unfold hasStyle
  simp only [List.any_eq_true, beq_iff_eq, List.mem_map]
theorem setStyle_ok {al : List (B × B)} {t : B} (h : AttrsOk al) (hc : AttrCond al t) : AttrsOk (setStyle al t) := by
  have hsn : NameOk styleName := ⟨by decide, by decide, by decide⟩
  unfold setStyle
  split
  · split
    · refine ⟨fun a ha => h.name a (List.mem_filter.1 ha).1, fun a ha => h.val a (List.mem_filter.1 ha).1, Nat.le_trans (List.length_filter_le _ _) h.few, ?_⟩
      exact (List.filter_sublist.map _).nodup h.apart
    · have hmap : (al.map fun a => if a.1 = styleName then (a.1, t) else a).map (·.1) = al.map (·.1) := by
        rw [List.map_map]
        apply List.map_congr_left
        intro a _
        simp only [Function.comp_apply]
        split <;> rfl
      refine ⟨fun a ha => ?_, fun a ha => ?_, by simpa using h.few, by rw [hmap]; exact h.apart⟩
      · obtain ⟨b, hb, rfl⟩ := List.mem_map.1 ha
        split
        · exact h.name b hb
        · exact h.name b hb
      · obtain ⟨b, hb, rfl⟩ := List.mem_map.1 ha
        split
        · exact hc.val
        · exact h.val b hb
  · rename_i hs
    rw [Bool.not_eq_true] at hs
    split
    · exact h
    · rename_i ht
      refine ⟨fun a ha => ?_, fun a ha => ?_, ?_, ?_⟩
      · rcases List.mem_cons.1 ha with rfl | ha
        · exact hsn
        · exact h.name a ha
      · rcases List.mem_cons.1 ha with rfl | ha
        · exact hc.val
        · exact h.val a ha
      · have := h.few
        have : al.length ≠ 8 := fun e => ht (hc.few hs e)
        simp; omega
      · rw [List.map_cons, List.nodup_cons]
        refine ⟨fun hm => ?_, h.apart⟩
        have := hasStyle_iff.2 hm
        rw [hs] at this; cases this
def allN (Q : Nat → List (B × B) → Prop) : Nat → PT → Prop
  | _, .nil => True
  | c, .text _ n => allN Q c n
  | c, .note _ n => allN Q c n
  | c, .elem _ al kids n => Q c al ∧ allN Q (c + 1) kids ∧ allN Q (c + 1 + sizeP kids) n
  | c, .style al _ n => Q c al ∧ allN Q (c + 1) n
theorem all_nodes {Q : Nat → List (B × B) → Prop} : ∀ (T : PT) (c p : Nat) (par : Int), (∀ j n, (nodesP par c p T)[j]? = some n → Q (c + j) (n.attrs.map pr)) → allN Q c T
  | .nil, _, _, _, _ => trivial
  | .text _ n, c, p, par, h => all_nodes n c _ par h
  | .note _ n, c, p, par, h => all_nodes n c _ par h
  | .elem nm al kids n, c, p, par, h => by
    simp only [nodesP] at h
    refine ⟨?_, all_nodes kids (c + 1) (p + (openText nm al).length) (c : Int) fun j m hm => ?_, all_nodes n (c + 1 + sizeP kids) (p + (openText nm al).length + (textP kids).length + (closeText nm).length) par fun j m hm => ?_⟩
    · have := h 0 _ rfl
      simpa only [attrsAt_pr, Nat.add_zero] using this
    · have := h (j + 1) m (by
        rw [List.getElem?_cons_succ, List.getElem?_append_left (List.getElem?_eq_some_iff.1 hm).1]; exact hm)
      rwa [show c + (j + 1) = c + 1 + j from by omega] at this
    · have := h (sizeP kids + j + 1) m (by
        rw [List.getElem?_cons_succ, List.getElem?_append_right (by rw [nodesP_len]; omega), nodesP_len, Nat.add_sub_cancel_left]; exact hm)
      rwa [show c + (sizeP kids + j + 1) = c + 1 + sizeP kids + j from by omega] at this
  | .style al inner n, c, p, par, h => by
    simp only [nodesP] at h
    refine ⟨?_, all_nodes n (c + 1) (p + (openText styleName al).length + inner.length + (closeText styleName).length) par fun j m hm => ?_⟩
    · have := h 0 _ rfl
      simpa only [attrsAt_pr, Nat.add_zero] using this
    · have := h (j + 1) m (by rw [List.getElem?_cons_succ]; exact hm)
      rwa [show c + (j + 1) = c + 1 + j from by omega] at this
def stripR (r : PRule) : PRule := { r with lo := 0, hi := 0 }
theorem strip_shift (r : PRule) (d : Nat) : stripR (r.shift d) = stripR r := rfl
theorem style_end_ok : styleEnd ≠ [] ∧ (32 : UInt8) ∉ styleEnd := by decide
theorem cut_inner (g : Nat → Bool) (i : Nat) {inner : B} {rs : List PRule} (h : sParse inner = .ok rs) :
    ∃ rs', sParse (splice (fun _ => [32]) g inner i 0 rs) = .ok rs' ∧ rs'.map stripR = keepP g i (rs.map stripR) := by
  have hl := splice_len g rs i 0 (by omega) (parse_placed h)
  obtain ⟨h1, _⟩ := parse_inv h
  have := parse_cut h (fun _ => [32]) (fun _ _ _ _ => .one (.inl rfl) .nil) (fun j => g (i + j)) (by rw [splice_shift, Nat.add_zero]; omega)
  obtain ⟨rs', h2, h3⟩ := this
  rw [splice_shift, Nat.add_zero] at h2
  refine ⟨rs', h2, ?_⟩
  rw [h3 stripR (.inl fun _ _ _ => rfl), keepP_shift, Nat.add_zero]
theorem fold_wf (tx : Nat → B) (g : Nat → Bool) : ∀ (T : PT) (d c i : Nat), wfP d T → okP T → allN (fun c al => AttrCond al (tx c)) c T → wfP d (foldP tx g c i T)
  | .nil, _, _, _, _, _, _ => trivial
  | .text x n, d, c, i, hw, ho, ha => ⟨hw.1, hw.2.1, fold_wf tx g n d c i hw.2.2 ho ha⟩
  | .note x n, d, c, i, hw, ho, ha => ⟨hw.1, fold_wf tx g n d c i hw.2 ho ha⟩
  | .elem nm al kids n, d, c, i, ⟨h1, h2, h3, h4, h5, h6⟩, ho, ⟨a1, a2, a3⟩ => ⟨h1, h2, h3, setStyle_ok h4 a1, fold_wf tx g kids _ _ _ h5 ho.1 a2, fold_wf tx g n _ _ _ h6 ho.2 a3⟩
  | .style al inner n, d, c, i, ⟨h1, h4, h5, h6⟩, ⟨⟨rs, hr⟩, ho⟩, ⟨a1, a2⟩ =>
    ⟨h1, setStyle_ok h4 a1, by rw [rulesOf_ok hr]; exact splice_noIn style_end_ok.1 style_end_ok.2 g h5 rs i 0 (by omega) (parse_placed hr), fold_wf tx g n _ _ _ h6 ho a2⟩
theorem fold_ok (tx : Nat → B) (g : Nat → Bool) : ∀ (T : PT) (c i : Nat), okP T → okP (foldP tx g c i T)
  | .nil, _, _, _ => trivial
  | .text x n, c, i, ho => fold_ok tx g n c i ho
  | .note x n, c, i, ho => fold_ok tx g n c i ho
  | .elem nm al kids n, c, i, ho => ⟨fold_ok tx g kids _ _ ho.1, fold_ok tx g n _ _ ho.2⟩
  | .style al inner n, c, i, ⟨⟨rs, hr⟩, ho⟩ => by
    obtain ⟨rs', h1, _⟩ := cut_inner g i hr
    exact ⟨⟨rs', by rw [rulesOf_ok hr]; exact h1⟩, fold_ok tx g n _ _ ho⟩
theorem fold_rules (tx : Nat → B) (g : Nat → Bool) : ∀ (T : PT) (c i p p' : Nat), okP T → (treeRules p' (foldP tx g c i T)).map stripR = keepP g i ((treeRules p T).map stripR)
  | .nil, _, _, _, _, _ => rfl
  | .text x n, c, i, p, p', ho => fold_rules tx g n c i _ _ ho
  | .note x n, c, i, p, p', ho => fold_rules tx g n c i _ _ ho
  | .elem nm al kids n, c, i, p, p', ho => by
    simp only [foldP, treeRules, List.map_append, keepP_app, List.length_map, treeRules_len]
    rw [fold_rules tx g kids _ _ (p + (openText nm al).length) _ ho.1, fold_rules tx g n _ _ (p + (openText nm al).length + (textP kids).length + (closeText nm).length) _ ho.2]
  | .style al inner n, c, i, p, p', ⟨⟨rs, hr⟩, ho⟩ => by
    obtain ⟨rs', h1, h2⟩ := cut_inner g i hr
    simp only [foldP, treeRules, List.map_append, keepP_app, List.length_map, List.map_map]
    rw [rulesOf_ok hr, rulesOf_ok h1, fold_rules tx g n _ _ (p + (openText styleName al).length + inner.length + (closeText styleName).length) _ ho]
    have e : ∀ d, stripR ∘ PRule.shift d = stripR := fun d => rfl
    rw [e, e, h2]
theorem plain_none {rules : List PRule} (h : rulesBad rules = none) : ∀ r ∈ rules, pAll r.decls = some (plainOf r) := by
  intro r hr
  unfold rulesBad at h
  rw [Option.map_eq_none_iff, List.find?_eq_none] at h
  have := h r hr
  unfold plainOf
  cases hp : pAll r.decls with
  | none => rw [hp] at this; simp at this
  | some x => rfl
theorem none_plain {rules : List PRule} (h : ∀ r ∈ rules, pAll r.decls ≠ none) : rulesBad rules = none := by
  unfold rulesBad
  rw [Option.map_eq_none_iff, List.find?_eq_none]
  intro r hr
  have := h r hr
  cases hp : pAll r.decls with
  | none => exact absurd hp this
  | some x => simp
theorem ruleClaims_ok {l : List PNode} {k : Int} {media : List B} : ∀ {rs : List PRule}, (∀ r ∈ rs, pAll r.decls = some (plainOf r)) →
    ruleClaims l k media rs = .ok (rs.flatMap fun r => if (mBest l k r.sels).2 && counts r media then (plainOf r).map (fun x => ⟨x, false, (mBest l k r.sels).1⟩) else [])
  | [], _ => rfl
  | r :: rs, h => by
    have ih := ruleClaims_ok (l := l) (k := k) (media := media) (rs := rs) fun q hq => h q (by simp [hq])
    simp only [ruleClaims, List.flatMap_cons]
    split
    · rw [h r (by simp), ih]; rfl
    · rw [ih]; rfl
def ownOf (n : PNode) : List PDecl := match ownDecls n with
  | .ok d => d
  | .bad _ => []
theorem nodes_own {l : List PNode} (h : nodesBad l = none) {n : PNode} (hn : n ∈ l) : ownDecls n = .ok (ownOf n) ∧ (∀ d ∈ ownOf n, DeclOk d ∧ d.name ≠ edgeName) := by
  have hsp : ownDecls n = .ok (ownOf n) ∧ ∃ v, ∃ ds, sDeclsOf v = .ok ds ∧ pAll ds = some (ownOf n) := by
    unfold nodesBad at h
    rw [List.findSome?_eq_none_iff] at h
    unfold ownOf ownDecls pGet
    cases hf : n.attrs.find? (fun a => a.name == styleName) with
    | none => exact ⟨rfl, [], [], rfl, rfl⟩
    | some a =>
      have ha := List.mem_of_find?_eq_some hf
      have hnm : a.name = styleName := by simpa using List.find?_some hf
      have := h a (List.mem_flatMap.2 ⟨n, hn, ha⟩)
      unfold attrBad at this
      rw [if_pos hnm] at this
      simp only
      cases hd : sDeclsOf a.val with
      | bad f => rw [hd] at this; cases this
      | ok ds =>
        rw [hd] at this
        simp only at this ⊢
        cases hp : pAll ds with
        | none => rw [hp] at this; simp at this
        | some x => exact ⟨rfl, _, _, hd, hp⟩
  obtain ⟨h1, v, ds, h2, h3⟩ := hsp
  exact ⟨h1, fun d hd => ⟨all_ok (declsOf_ok_of h2).1 h3 d hd, all_plain h3 d hd⟩⟩
def rcl (l : List PNode) (k : Int) (media : List B) (rs : List PRule) : List PClaim := rs.flatMap fun r => if (mBest l k r.sels).2 && counts r media then (plainOf r).map (fun x => ⟨x, false, (mBest l k r.sels).1⟩) else []
theorem declared_eq {l : List PNode} {k : Nat} {n : PNode} {rs : List PRule} {media : List B} (hn : l[k]? = some n) (hr : ∀ r ∈ rs, pAll r.decls = some (plainOf r)) (ho : nodesBad l = none) :
    cDeclared l (k : Int) rs media = .ok (cLook (rcl l (k : Int) media rs ++ ownClaims (ownOf n))) := by
  have hk : k < l.length := (List.getElem?_eq_some_iff.1 hn).1
  unfold cDeclared
  rw [if_pos (by unfold inR; simp; omega), Int.toNat_natCast, hn]
  simp only
  unfold cClaims
  rw [ruleClaims_ok hr, Ans.ok_then, (nodes_own ho (List.mem_of_getElem? hn)).1]
  rfl
theorem look_fine {cs : List PClaim} (h : ∀ c ∈ cs, DeclOk c.d ∧ c.d.name ≠ edgeName) : ∀ d ∈ cLook cs, DeclOk d ∧ d.name ≠ edgeName := by
  intro d hd
  obtain ⟨c, hc, rfl⟩ := look_mem.1 hd
  have := winner_fact cs c.d.name
  rw [hc] at this
  exact h c this.1
theorem rcl_fine {l : List PNode} {k : Int} {media : List B} {rs : List PRule} (hr : ∀ r ∈ rs, RuleOk r) (hp : ∀ r ∈ rs, pAll r.decls = some (plainOf r)) : ∀ c ∈ rcl l k media rs, DeclOk c.d ∧ c.d.name ≠ edgeName := by
  intro c hc
  obtain ⟨r, hm, hc⟩ := List.mem_flatMap.1 hc
  split at hc
  · obtain ⟨d, hd, rfl⟩ := List.mem_map.1 hc
    exact ⟨all_ok (hr r hm).decls (hp r hm) d hd, all_plain (hp r hm) d hd⟩
  · cases hc
structure StyleAs (l : List PNode) (k : Nat) (gone : List PRule) (look : List PDecl) : Prop where
  said : cDeclared l (k : Int) gone [] = .ok look
  fine : ∀ d ∈ look, DeclOk d ∧ d.name ≠ edgeName
  text : (styleText l k gone).1 = sPrint look
  fits : (styleText l k gone).2 = decide (look.length ≤ 20)
theorem mem_keepP {α : Type} (p : Nat → Bool) {x : α} : ∀ {xs : List α} {i : Nat}, x ∈ keepP p i xs → x ∈ xs
  | [], _, h => by cases h
  | y :: ys, i, h => by
    simp only [keepP] at h
    split at h
    · exact List.mem_cons_of_mem _ (mem_keepP p h)
    · rcases List.mem_cons.1 h with rfl | h
      · simp
      · exact List.mem_cons_of_mem _ (mem_keepP p h)
theorem style_as {s : B} {l : List PNode} {rules : List PRule} {T : PT} (h : ReadAs s l rules T) {gone : List PRule} (hg : ∀ r ∈ gone, r ∈ rules) {k : Nat} {n : PNode} (hn : l[k]? = some n) :
    StyleAs l k gone (cLook (rcl l (k : Int) [] gone ++ ownClaims (ownOf n))) := by
  have hp : ∀ r ∈ gone, pAll r.decls = some (plainOf r) := fun r hr => plain_none h.plain r (hg r hr)
  have hd := declared_eq (media := []) hn hp h.own
  refine ⟨hd, look_fine fun c hc => ?_, by unfold styleText; rw [hd], by unfold styleText; rw [hd]⟩
  rcases List.mem_append.1 hc with hc | hc
  · exact rcl_fine (fun r hr => treeRules_ok T 0 h.ok r (by rw [← h.rulesEq]; exact hg r hr)) hp c hc
  · obtain ⟨d, hd, rfl⟩ := List.mem_map.1 hc
    exact (nodes_own h.own (List.mem_of_getElem? hn)).2 d hd
theorem getP_style {al : List (B × B)} : (getP al styleName).2 = hasStyle al := by
  unfold getP hasStyle
  induction al with
  | nil => rfl
  | cons a al ih =>
    simp only [List.find?_cons, List.any_cons]
    cases a.1 == styleName with
    | true => rfl
    | false => simpa using ih
theorem getP_set_style {al : List (B × B)} {t : B} : (getP (setStyle al t) styleName).1 = t := by
  have hfilter : ∀ al : List (B × B), (getP (al.filter (fun a => !(a.1 == styleName) || a.2.isEmpty)) styleName).1 = [] := by
    intro al
    unfold getP
    induction al with
    | nil => rfl
    | cons a al ih =>
      simp only [List.filter_cons]
      cases hx : (!(a.1 == styleName) || a.2.isEmpty) with
      | true =>
        simp only [if_true, List.find?_cons]
        cases hc : a.1 == styleName with
        | true =>
          rw [hc] at hx
          simpa using hx
        | false => exact ih
      | false => simp only [Bool.false_eq_true, if_false]; exact ih
  have hmap : ∀ al : List (B × B), hasStyle al = true → (getP (al.map fun a => if a.1 = styleName then (a.1, t) else a) styleName).1 = t := by
    intro al
    unfold getP
    induction al with
    | nil => intro h; cases h
    | cons a al ih =>
      intro h
      rw [hasStyle_cons] at h
      simp only [List.map_cons, List.find?_cons]
      by_cases ha : a.1 = styleName
      · simp [ha]
      · have hc : (a.1 == styleName) = false := by simpa using ha
        simp only [ha, if_false, hc]
        exact ih (by simpa [ha] using h)
  unfold setStyle
  split
  · rename_i hs
    split
    · rename_i ht; rw [ht]; exact hfilter al
    · exact hmap al hs
  · rename_i hs
    split
    · rename_i ht
      have : (getP al styleName).2 = false := by rw [getP_style]; simpa using hs
      unfold getP at this ⊢
      cases hf : al.find? (fun a => a.1 == styleName) with
      | none => rw [ht]
      | some a => rw [hf] at this; cases this
    · simp [getP]
theorem mem_set {al : List (B × B)} {t : B} {a : B × B} (h : a ∈ setStyle al t) (hn : a.1 = styleName) : a.2 = t := by
  unfold setStyle at h
  split at h
  · split at h
    · rename_i ht
      have := (List.mem_filter.1 h).2
      simp [hn] at this
      rw [ht, this]
    · obtain ⟨b, hb, rfl⟩ := List.mem_map.1 h
      split
      · rfl
      · rename_i hx
        rw [if_neg hx] at hn
        exact absurd hn hx
  · rename_i hs
    split at h
    · exfalso
      exact hs (hasStyle_iff.2 (List.mem_map.2 ⟨a, h, hn⟩))
    · rcases List.mem_cons.1 h with rfl | h
      · rfl
      · exfalso
        exact hs (hasStyle_iff.2 (List.mem_map.2 ⟨a, h, hn⟩))
structure FoldAs (s t : B) (l m : List PNode) (rules qs : List PRule) (st : List Bool) (T : PT) : Prop where
  src : ReadAs s l rules T
  len : st.length = rules.length
  dst : ReadAs t m qs (foldP (fun k => (styleText l k (goneR rules st)).1) (goes st) 0 0 T)
  rel : RelL (fun k => (styleText l k (goneR rules st)).1) 0 l m
  kept : qs.map stripR = keepP (goes st) 0 (rules.map stripR)
  style : ∀ (k : Nat) (n : PNode), l[k]? = some n → StyleAs l k (goneR rules st) (cLook (rcl l (k : Int) [] (goneR rules st) ++ ownClaims (ownOf n))) ∧ (cLook (rcl l (k : Int) [] (goneR rules st) ++ ownClaims (ownOf n))).length ≤ 20
theorem fold_reads {s t : B} {l : List PNode} {rules : List PRule} {st : List Bool} {T : PT} (h : ReadAs s l rules T) (hs : st.length = rules.length) (hf : fFold s l rules st = .ok t) : ∃ m qs, FoldAs s t l m rules qs st T := by
  obtain ⟨h1, h2, h3⟩ := fold_as h hs hf
  have hgone : ∀ r ∈ goneR rules st, r ∈ rules := fun r hr => by rw [gone_keep hs] at hr; exact mem_keepP _ hr
  have hsty : ∀ (k : Nat) (n : PNode), l[k]? = some n → StyleAs l k (goneR rules st) (cLook (rcl l (k : Int) [] (goneR rules st) ++ ownClaims (ownOf n))) ∧ (cLook (rcl l (k : Int) [] (goneR rules st) ++ ownClaims (ownOf n))).length ≤ 20 := by
    intro k n hn
    have h4 := style_as h hgone hn
    refine ⟨h4, ?_⟩
    have := (h3 k n hn).1
    rw [h4.fits] at this
    simpa using this
  have hcond : allN (fun c al => AttrCond al (styleText l c (goneR rules st)).1) 0 T := by
    refine all_nodes T 0 0 (-1) fun j n hn => ?_
    rw [← h.nodes] at hn
    rw [Nat.zero_add]
    refine ⟨?_, fun hns h8 => ?_⟩
    · rw [(hsty j n hn).1.text]
      exact print_val fun d hd => ((hsty j n hn).1.fine d hd).1
    · have := (h3 j n hn).2
      rw [pGet_pr, getP_style, hns] at this
      rw [List.length_map] at h8
      exact Classical.byContradiction fun hx => this ⟨rfl, h8, hx⟩
  have hrel := nodes_rel (fun k => (styleText l k (goneR rules st)).1) (goes st) T 0 0 0 0 (-1)
  rw [← h.nodes] at hrel
  have hkept := fold_rules (fun k => (styleText l k (goneR rules st)).1) (goes st) T 0 0 0 0 h.ok
  rw [← h.rulesEq] at hkept
  refine ⟨_, _, h, hs, ⟨h2, fold_wf _ _ T 1 0 0 h.wf h.ok hcond, fold_ok _ _ T 0 0 h.ok, by rw [size_fold]; exact h.few, h1, rfl, rfl, ?_, ?_, ?_⟩, hrel, hkept, hsty⟩
  · have := congrArg List.length hkept
    rw [List.length_map] at this
    have hle := keepP_len (goes st) (rules.map stripR) 0
    rw [List.length_map] at hle
    have := h.most
    omega
  · refine none_plain fun r hr => ?_
    have hm : stripR r ∈ keepP (goes st) 0 (rules.map stripR) := by rw [← hkept]; exact List.mem_map.2 ⟨r, hr, rfl⟩
    obtain ⟨q, hq, he⟩ := List.mem_map.1 (mem_keepP _ hm)
    have h5 := plain_none h.plain q hq
    have h6 : (stripR q).decls = (stripR r).decls := by rw [he]
    change q.decls = r.decls at h6
    rw [← h6, h5]; simp
  · unfold nodesBad
    rw [List.findSome?_eq_none_iff]
    intro a ha
    obtain ⟨m, hm, ham⟩ := List.mem_flatMap.1 ha
    obtain ⟨j, hj⟩ := List.getElem?_of_mem hm
    have hjl : j < l.length := by rw [hrel.len]; exact (List.getElem?_eq_some_iff.1 hj).1
    obtain ⟨m', hm', hnr⟩ := hrel.get (List.getElem?_eq_getElem hjl)
    rw [hj] at hm'
    cases hm'
    unfold attrBad
    split
    · rename_i hnm
      have hmp : pr a ∈ m.attrs.map pr := List.mem_map.2 ⟨a, ham, rfl⟩
      rw [hnr.attrs, Nat.zero_add] at hmp
      have hv : a.val = _ := mem_set hmp hnm
      have hx := hsty j _ (List.getElem?_eq_getElem hjl)
      have hpr := print_read (fun d hd => (hx.1.fine d hd).1) hx.2
      rw [hv, hx.1.text, hpr]
      simp only
      rw [all_of_plain fun d hd => (hx.1.fine d hd).2]
      rfl
    · rfl
end Go.Proofs.YtplbdlgmjehckacGreatDoor
namespace Go.Proofs.YtplbdlgmjehckacGreatDoor
set_option linter.unusedVariables false
set_option linter.unusedSimpArgs false
theorem testsL_lim : ∀ (f : Nat) (ts : List PTest) (q : Bool) (l : B) (a : Nat) (v : List PTest) (l' : B) (a' : Nat), ts.length ≤ 6 → sTestsL f ts q l a = .ok (v, l', a') → v.length ≤ 6 := by
  intro f
  induction f with
  | zero => intro ts q l a v l' a' _ h; cases h
  | succ f ih =>
    intro ts q l a v l' a' ht h
    rw [sTestsL] at h
    obtain ⟨⟨x, l1, a1⟩, h1, h⟩ := then_ok h
    cases x with
    | none =>
      simp only at h
      split at h
      · cases h; exact ht
      · cases h
    | some x =>
      simp only at h
      split at h
      · cases h
      · exact ih _ _ _ _ _ _ _ (by simp; omega) h
theorem tests_lim {l l' : B} {a a' : Nat} {v : List PTest} (h : sTests l a = .ok (v, l', a')) : v.length ≤ 6 := by
  unfold sTests at h
  obtain ⟨⟨ts, q, l1, a1⟩, h1, h⟩ := then_ok h
  refine testsL_lim _ _ _ _ _ _ _ _ ?_ h
  unfold sHead at h1
  split at h1
  · cases h1; simp
  · split at h1
    · cases h1; simp
    · obtain ⟨⟨nm, l2, a2⟩, h2, h1⟩ := then_ok h1
      cases h1; simp
def selLim (s : PSel) : Prop := s.length ≤ 6 ∧ ∀ p ∈ s, p.tests.length ≤ 6
theorem selL_lim : ∀ (f : Nat) (ps : List PPart) (l : B) (a : Nat) (v : PSel) (l' : B) (a' : Nat), selLim ps → sSelL f ps l a = .ok (v, l', a') → selLim v := by
  intro f
  induction f with
  | zero => intro ps l a v l' a' _ h; cases h
  | succ f ih =>
    intro ps l a v l' a' ht h
    rw [sSelL] at h
    obtain ⟨⟨j, l1, a1⟩, h1, h⟩ := then_ok h
    cases j with
    | none => simp only at h; cases h; exact ht
    | some j =>
      simp only at h
      split at h
      · cases h
      · obtain ⟨⟨ts, l2, a2⟩, h2, h⟩ := then_ok h
        refine ih _ _ _ _ _ _ ⟨by simp; have := ht.1; omega, ?_⟩ h
        intro p hp
        rcases List.mem_append.1 hp with hp | hp
        · exact ht.2 p hp
        · simp at hp; subst hp; exact tests_lim h2
theorem sel_lim {l l' : B} {a a' : Nat} {v : PSel} (h : sSel l a = .ok (v, l', a')) : selLim v := by
  unfold sSel at h
  obtain ⟨⟨ts, l1, a1⟩, h1, h⟩ := then_ok h
  refine selL_lim _ _ _ _ _ _ _ ⟨by simp, ?_⟩ h
  intro p hp
  simp at hp; subst hp; exact tests_lim h1
theorem selsL_lim : ∀ (f : Nat) (ss : List PSel) (l : B) (a : Nat) (v : List PSel) (l' : B) (a' : Nat), (ss.length ≤ 8 ∧ ∀ s ∈ ss, selLim s) → sSelsL f ss l a = .ok (v, l', a') → v.length ≤ 8 ∧ ∀ s ∈ v, selLim s := by
  intro f
  induction f with
  | zero => intro ss l a v l' a' _ h; cases h
  | succ f ih =>
    intro ss l a v l' a' hs h
    rw [sSelsL] at h
    split at h
    · cases h
    · rename_i hn
      obtain ⟨⟨x, l1, a1⟩, h1, h⟩ := then_ok h
      have hx : (ss ++ [x]).length ≤ 8 ∧ ∀ s ∈ ss ++ [x], selLim s := by
        refine ⟨by simp; have := hs.1; omega, fun s hm => ?_⟩
        rcases List.mem_append.1 hm with hm | hm
        · exact hs.2 s hm
        · simp at hm; subst hm; exact sel_lim h1
      simp only at h
      split at h
      · obtain ⟨⟨l2, a2⟩, h2, h⟩ := then_ok h
        exact ih _ _ _ _ _ _ hx h
      · cases h; exact hx
structure RuleLim (r : PRule) : Prop where
  sels : r.sels.length ≤ 8
  parts : ∀ s ∈ r.sels, selLim s
  decls : r.decls.length ≤ 20
  each : ∀ d ∈ r.decls, d.name.length ≤ 20 ∧ d.val.length ≤ 60
theorem declOk_lim {d : PDecl} (h : DeclOk d) : d.name.length ≤ 20 ∧ d.val.length ≤ 60 := by
  obtain ⟨h1, ws, _, _, _, h2⟩ := h
  exact ⟨h1.2.2, h2⟩
theorem ruleT_lim {t : B} {ss : List PSel} {ds : List PDecl} (h : RuleT t ss ds) (md : B) (lo hi : Int) : RuleLim ⟨md, ss, ds, lo, hi⟩ := by
  have := h.read [] [] 0
  unfold sRule at this
  obtain ⟨⟨ss1, l1, a1⟩, h1, h⟩ := then_ok this
  obtain ⟨⟨l2, a2⟩, h2, h⟩ := then_ok h
  obtain ⟨⟨ds1, l3, a3⟩, h3, h⟩ := then_ok h
  obtain ⟨⟨l4, a4⟩, h4, h⟩ := then_ok h
  simp only [Ans.ok.injEq, Prod.mk.injEq, PRule.mk.injEq] at h
  obtain ⟨⟨_, rfl, rfl, _⟩, _⟩ := h
  have q := selsL_lim _ _ _ _ _ _ _ ⟨by simp, by simp⟩ h1
  have d := decls_ok_of h3
  exact ⟨q.1, q.2, d.2, fun x hx => declOk_lim (d.1 x hx)⟩
theorem placed_lim {s : B} : ∀ {rs : List PRule} {a : Nat}, Placed s a rs → ∀ r ∈ rs, RuleLim r ∧ 0 ≤ r.lo ∧ r.lo ≤ r.hi ∧ r.hi ≤ s.length
  | [], _, _, r, hr => by cases hr
  | x :: rs, a, ⟨lo, hi, h1, h2, h3, h4, h5, h6, h7⟩, r, hr => by
    rcases List.mem_cons.1 hr with rfl | hr
    · exact ⟨ruleT_lim h6 r.media r.lo r.hi, by omega, by omega, by omega⟩
    · exact placed_lim h7 r hr
theorem sparse_lim {s : B} {rs : List PRule} (h : sParse s = .ok rs) : rs.length ≤ 60 ∧ ∀ r ∈ rs, RuleLim r ∧ 0 ≤ r.lo ∧ r.lo ≤ r.hi ∧ r.hi ≤ s.length :=
  ⟨(parse_inv h).2.1, placed_lim (parse_placed h)⟩
theorem RuleLim.shift {r : PRule} (h : RuleLim r) (d : Nat) : RuleLim (r.shift d) := ⟨h.sels, h.parts, h.decls, h.each⟩
theorem styleRules_lim {s : B} : ∀ {ns : List PNode} {rs : List PRule}, (∀ n ∈ ns, InPl s n) → styleRules s ns = .ok rs → rs.length ≤ 60 * ns.length ∧ ∀ r ∈ rs, RuleLim r ∧ 0 ≤ r.lo ∧ r.lo ≤ r.hi ∧ r.hi ≤ s.length
  | [], rs, _, h => by cases h; simp
  | n :: ns, rs, hp, h => by
    simp only [styleRules] at h
    split at h
    · cases hs : sParse (sub s n.inF.toNat n.inT.toNat) with
      | bad f => rw [hs] at h; cases h
      | ok xs =>
        rw [hs] at h
        obtain ⟨qs, hq, h⟩ := then_ok h
        cases h
        obtain ⟨i1, i2⟩ := styleRules_lim (fun m hm => hp m (by simp [hm])) hq
        obtain ⟨s1, s2⟩ := sparse_lim hs
        obtain ⟨p, q, e1, e2, e3, e4⟩ := hp n (by simp)
        refine ⟨by simp; omega, fun r hr => ?_⟩
        rcases List.mem_append.1 hr with hr | hr
        · obtain ⟨x, hx, rfl⟩ := List.mem_map.1 hr
          obtain ⟨b1, b2, b3, b4⟩ := s2 x hx
          refine ⟨b1.shift _, ?_⟩
          have hl : (sub s n.inF.toNat n.inT.toNat).length = q - p := by rw [e1, e2, Int.toNat_natCast, Int.toNat_natCast]; exact sub_len s e3 e4
          rw [hl] at b4
          have el : (x.shift n.inF.toNat).lo = x.lo + (n.inF.toNat : Int) := rfl
          have eh : (x.shift n.inF.toNat).hi = x.hi + (n.inF.toNat : Int) := rfl
          rw [el, eh, e1, Int.toNat_natCast]
          omega
        · exact i2 r hr
    · obtain ⟨i1, i2⟩ := styleRules_lim (fun m hm => hp m (by simp [hm])) h
      exact ⟨by simp; omega, i2⟩
structure NodeLim (s : B) (n : PNode) : Prop where
  attrs : ∀ a ∈ n.attrs, a.name.length ≤ s.length ∧ a.val.length ≤ s.length ∧ 0 ≤ a.lo ∧ a.lo ≤ a.hi ∧ a.hi ≤ s.length
  parent : -1 ≤ n.parent ∧ n.parent ≤ s.length + 200
  nameEnd : 0 ≤ n.nameEnd ∧ n.nameEnd ≤ s.length
  name : n.name.length ≤ s.length
  inner : InPl s n
theorem page_lim {s : B} {ns : List PNode} (h : pParse s = .ok ns) : s.length ≤ 6000 ∧ ns.length ≤ 120 ∧ (∀ n ∈ ns, NodeLim s n) ∧ ∀ n ∈ ns, n.attrs.length ≤ 8 := by
  obtain ⟨h1, T, h2, h3, h4, h5⟩ := page_inv h
  have hf := parse_fact s
  rw [h] at hf
  have hl : ns.length ≤ 120 := by rw [h5, nodesP_len]; exact h3
  refine ⟨h1, hl, fun n hn => ?_, fun n hn => ?_⟩
  · obtain ⟨i, hi⟩ := List.getElem?_of_mem hn
    have hil := (List.getElem?_eq_some_iff.1 hi).1
    obtain ⟨p1, p2, ⟨e, e1, e2, e3, e4, e5⟩, p4⟩ := hf i n hi
    refine ⟨fun a ha => ?_, ⟨p1, by omega⟩, ⟨by omega, by omega⟩, by omega, p4⟩
    obtain ⟨b, c, g1, g2, g3, g4, g5, g6⟩ := e5 a ha
    have := congrArg List.length g6
    rw [sub_len s g4 g5] at this
    simp at this
    omega
  · rw [h5] at hn
    have key : ∀ (T : PT) (d : Nat) (par : Int) (c p : Nat), wfP d T → ∀ n ∈ nodesP par c p T, n.attrs.length ≤ 8 := by
      intro T
      induction T with
      | nil => intro d par c p _ n hn; cases hn
      | text x n ih => intro d par c p hw m hm; exact ih d par c _ hw.2.2 m hm
      | note x n ih => intro d par c p hw m hm; exact ih d par c _ hw.2 m hm
      | elem nm al kids n ih1 ih2 =>
        intro d par c p hw m hm
        obtain ⟨w1, w2, w3, w4, w5, w6⟩ := hw
        simp only [nodesP, List.mem_cons, List.mem_append] at hm
        rcases hm with rfl | hm | hm
        · rw [attrsAt_len]; exact w4.few
        · exact ih1 _ _ _ _ w5 m hm
        · exact ih2 _ _ _ _ w6 m hm
      | style al inner n ih =>
        intro d par c p hw m hm
        obtain ⟨w1, w4, w5, w6⟩ := hw
        simp only [nodesP, List.mem_cons] at hm
        rcases hm with rfl | hm
        · rw [attrsAt_len]; exact w4.few
        · exact ih _ _ _ _ w6 m hm
    exact key T 1 _ _ _ h2 n hn
structure ReadLim (s : B) (l : List PNode) (rules : List PRule) : Prop where
  len : s.length ≤ 6000
  nodes : l.length ≤ 120
  node : ∀ n ∈ l, NodeLim s n
  attrs : ∀ n ∈ l, n.attrs.length ≤ 8
  most : rules.length ≤ 60
  rule : ∀ r ∈ rules, RuleLim r ∧ 0 ≤ r.lo ∧ r.lo ≤ r.hi ∧ r.hi ≤ s.length
theorem read_lim {s : B} {l : List PNode} {rules : List PRule} (h : fRead s = .ok (l, rules)) : ReadLim s l rules := by
  unfold fRead at h
  obtain ⟨l1, h1, h⟩ := then_ok h
  obtain ⟨rs, h2, h⟩ := then_ok h
  split at h
  · cases h
  · rename_i hn
    cases h3 : rulesBad rs with
    | some f => rw [h3] at h; cases h
    | none =>
      cases h4 : nodesBad l1 with
      | some f => rw [h3, h4] at h; cases h
      | none =>
        rw [h3, h4] at h
        cases h
        obtain ⟨a1, a2, a3, a4⟩ := page_lim h1
        exact ⟨a1, a2, a3, a4, by omega, (styleRules_lim (fun n hn => (a3 n hn).inner) h2).2⟩
end Go.Proofs.YtplbdlgmjehckacGreatDoor
