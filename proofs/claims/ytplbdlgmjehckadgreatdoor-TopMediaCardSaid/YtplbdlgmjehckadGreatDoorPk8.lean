/-
  Lemmas for the claims of this seat: the program's functions walked, and plain laws. In this order: FoLaws TpTools TpLaws FoAlive TpLaws2 FoRest TpLaws3 TpLaws4.
-/
import Derived.Test.YtplbdlgmjehckadGreatDoorPk7
namespace Go.Proofs.YtplbdlgmjehckadGreatDoor
set_option linter.unusedVariables false
set_option linter.unusedSimpArgs false
theorem mem_keepP_iff {α : Type} (p : Nat → Bool) {x : α} : ∀ {xs : List α} {i : Nat}, x ∈ keepP p i xs ↔ ∃ j, xs[j]? = some x ∧ p (i + j) = false
  | [], i => by simp [keepP]
  | y :: ys, i => by
    have ih := mem_keepP_iff p (x := x) (xs := ys) (i := i + 1)
    simp only [keepP]
    constructor
    · intro h
      split at h
      · obtain ⟨j, h1, h2⟩ := ih.1 h
        exact ⟨j + 1, by simpa using h1, by rw [show i + (j + 1) = i + 1 + j from by omega]; exact h2⟩
      · rename_i hp
        rcases List.mem_cons.1 h with rfl | h
        · exact ⟨0, rfl, by simpa using hp⟩
        · obtain ⟨j, h1, h2⟩ := ih.1 h
          exact ⟨j + 1, by simpa using h1, by rw [show i + (j + 1) = i + 1 + j from by omega]; exact h2⟩
    · rintro ⟨j, h1, h2⟩
      cases j with
      | zero =>
        simp only [List.getElem?_cons_zero, Option.some.injEq] at h1
        subst h1
        rw [Nat.add_zero] at h2
        rw [if_neg (by rw [h2]; simp)]
        simp
      | succ j =>
        have := ih.2 ⟨j, by simpa using h1, by rw [show i + 1 + j = i + (j + 1) from by omega]; exact h2⟩
        split
        · exact this
        · exact List.mem_cons_of_mem _ this
theorem goes_iff {l : List PNode} {rules : List PRule} {st : List Bool} (h : IsStays l rules st) {i : Nat} (hi : i < rules.length) : goes st i = false ↔ Stay l rules i := by
  have h1 := List.getElem?_eq_getElem (show i < st.length by rw [h.len]; exact hi)
  have h2 := h.iff _ _ h1
  unfold goes
  rw [h1, ← h2]
  cases st[i]'(by rw [h.len]; exact hi) <;> simp
theorem apart {l : List PNode} {rules : List PRule} {st : List Bool} (h : IsStays l rules st) {r q : PRule} (hr : r ∈ keepP (goes st) 0 rules) (hq : q ∈ goneR rules st) {p : Nat × B} (h1 : p ∈ touches l r) (h2 : p ∈ touches l q) : False := by
  rw [gone_keep h.len] at hq
  obtain ⟨i, hi, gi⟩ := (mem_keepP_iff _).1 hr
  obtain ⟨j, hj, gj⟩ := (mem_keepP_iff _).1 hq
  rw [Nat.zero_add] at gi gj
  have hs := (goes_iff h (List.getElem?_eq_some_iff.1 hi).1).1 gi
  have hs' : Stay l rules j := .meet hj hi hs h2 h1
  have := (goes_iff h (List.getElem?_eq_some_iff.1 hj).1).2 hs'
  rw [this] at gj; cases gj
theorem gone_media {l : List PNode} {rules : List PRule} {st : List Bool} (h : IsStays l rules st) {q : PRule} (hq : q ∈ goneR rules st) : q.media = [] := by
  rw [gone_keep h.len] at hq
  obtain ⟨j, hj, gj⟩ := (mem_keepP_iff _).1 hq
  rw [Nat.zero_add] at gj
  refine Classical.byContradiction fun hm => ?_
  have := (goes_iff h (List.getElem?_eq_some_iff.1 hj).1).2 (.media hj hm)
  rw [this] at gj; cases gj
def cl (l : List PNode) (k : Int) (media : List B) (r : PRule) : List PClaim := if (mBest l k r.sels).2 && counts r media then (plainOf r).map (fun x => ⟨x, false, (mBest l k r.sels).1⟩) else []
theorem rcl_cons (l : List PNode) (k : Int) (media : List B) (r : PRule) (rs : List PRule) : rcl l k media (r :: rs) = cl l k media r ++ rcl l k media rs := rfl
theorem cl_none {l : List PNode} {k : Nat} {media : List B} {r : PRule} {n : B} (hk : k < l.length) (h : (k, n) ∉ touches l r) : winner (cl l (k : Int) media r) n = none := by
  have hf := winner_fact (cl l (k : Int) media r) n
  cases hw : winner (cl l (k : Int) media r) n with
  | none => rfl
  | some w =>
    exfalso
    rw [hw] at hf
    obtain ⟨h1, h2, _⟩ := hf
    unfold cl at h1
    split at h1
    · rename_i hb
      obtain ⟨d, hd, rfl⟩ := List.mem_map.1 h1
      rw [Bool.and_eq_true] at hb
      exact h (mem_touches.2 ⟨hk, hb.1, d, hd, h2⟩)
    · cases h1
theorem rcl_keep {l : List PNode} {k : Nat} {media : List B} {n : B} (hk : k < l.length) (p : Nat → Bool) : ∀ (rs : List PRule) (i : Nat), (∀ j r, rs[j]? = some r → p (i + j) = true → (k, n) ∉ touches l r) →
    winner (rcl l (k : Int) media rs) n = winner (rcl l (k : Int) media (keepP p i rs)) n
  | [], _, _ => rfl
  | r :: rs, i, h => by
    have ih := rcl_keep (media := media) hk p rs (i + 1) fun j q hq hp => h (j + 1) q (by simpa using hq) (by rw [show i + (j + 1) = i + 1 + j from by omega]; exact hp)
    rw [rcl_cons, winner_app, ih]
    simp only [keepP]
    split
    · rename_i hp
      rw [cl_none hk (h 0 r rfl (by rw [Nat.add_zero]; exact hp))]
      exact (by cases winner (rcl l (k : Int) media (keepP p (i + 1) rs)) n <;> rfl)
    · rw [rcl_cons, winner_app]
theorem rcl_media {l : List PNode} {k : Int} {media media' : List B} : ∀ {rs : List PRule}, (∀ r ∈ rs, r.media = []) → rcl l k media rs = rcl l k media' rs
  | [], _ => rfl
  | r :: rs, h => by
    rw [rcl_cons, rcl_cons, rcl_media (fun q hq => h q (by simp [hq]))]
    unfold cl counts
    rw [h r (by simp)]
    rfl
theorem rcl_none {l : List PNode} {k : Nat} {media : List B} {n : B} (hk : k < l.length) : ∀ {rs : List PRule}, (∀ r ∈ rs, (k, n) ∉ touches l r) → winner (rcl l (k : Int) media rs) n = none
  | [], _ => rfl
  | r :: rs, h => by
    rw [rcl_cons, winner_app, cl_none hk (h r (by simp)), rcl_none hk fun q hq => h q (by simp [hq])]
    rfl
theorem rcl_strip (l : List PNode) (k : Int) (media : List B) (rs : List PRule) : rcl l k media (rs.map stripR) = rcl l k media rs := by
  induction rs with
  | nil => rfl
  | cons r rs ih => rw [List.map_cons, rcl_cons, rcl_cons, ih]; rfl
theorem rcl_rel {tx : Nat → B} {l m : List PNode} (h : RelL tx 0 l m) {rs : List PRule} (hr : ∀ r ∈ rs, RuleOk r) (k : Int) (media : List B) : rcl m k media rs = rcl l k media rs := by
  induction rs with
  | nil => rfl
  | cons r rs ih =>
    rw [rcl_cons, rcl_cons, ih fun q hq => hr q (by simp [hq])]
    unfold cl
    rw [rel_best h (hr r (by simp)).sels]
theorem winner_own {ds : List PDecl} {n : B} {c : PClaim} (h : winner (ownClaims ds) n = some c) : c = ⟨c.d, true, ⟨0, 0, 0⟩⟩ ∧ c.d ∈ ds ∧ c.d.name = n := by
  have hf := winner_fact (ownClaims ds) n
  rw [h] at hf
  obtain ⟨h1, h2, _⟩ := hf
  unfold ownClaims at h1
  obtain ⟨d, hd, rfl⟩ := List.mem_map.1 h1
  exact ⟨rfl, hd, h2⟩
theorem winner_ownLook (cs : List PClaim) (n : B) : winner (ownClaims (cLook cs)) n = (winner cs n).map fun c => ⟨c.d, true, ⟨0, 0, 0⟩⟩ := by
  cases hw : winner (ownClaims (cLook cs)) n with
  | some w =>
    obtain ⟨h1, h2, h3⟩ := winner_own hw
    obtain ⟨c, hc, hd⟩ := look_mem.1 h2
    rw [h3] at hc
    rw [hc, Option.map_some, hd, ← h1]
  | none =>
    have hf := winner_fact (ownClaims (cLook cs)) n
    rw [hw] at hf
    cases hc : winner cs n with
    | none => rfl
    | some c =>
      exfalso
      have hf2 := winner_fact cs n
      rw [hc] at hf2
      have hm : c.d ∈ cLook cs := look_mem.2 ⟨c, by rw [hf2.2.1]; exact hc, rfl⟩
      exact hf ⟨c.d, true, ⟨0, 0, 0⟩⟩ (List.mem_map.2 ⟨c.d, hm, rfl⟩) hf2.2.1
section
variable {s t : B} {l m : List PNode} {rules qs : List PRule} {st : List Bool} {T : PT}
theorem FoldAs.look_own (F : FoldAs s t l m rules qs st T) {k : Nat} {n n' : PNode} (hn : l[k]? = some n) (hn' : m[k]? = some n') :
    ownOf n' = cLook (rcl l (k : Int) [] (goneR rules st) ++ ownClaims (ownOf n)) ∧ (pGet n'.attrs styleName).1 = sPrint (cLook (rcl l (k : Int) [] (goneR rules st) ++ ownClaims (ownOf n))) := by
  obtain ⟨h1, h2⟩ := F.style k n hn
  obtain ⟨m', hm', hr⟩ := F.rel.get hn
  rw [hn'] at hm'
  cases hm'
  rw [Nat.zero_add] at hr
  have hg : (pGet n'.attrs styleName).1 = sPrint (cLook (rcl l (k : Int) [] (goneR rules st) ++ ownClaims (ownOf n))) := by
    rw [pGet_pr, hr.attrs, getP_set_style, h1.text]
  refine ⟨?_, hg⟩
  generalize cLook (rcl l (k : Int) [] (goneR rules st) ++ ownClaims (ownOf n)) = lk at *
  unfold ownOf ownDecls
  rw [hg, print_read (fun d hd => (h1.fine d hd).1) h2]
  simp only
  rw [all_of_plain fun d hd => (h1.fine d hd).2]
theorem FoldAs.rules_ok (F : FoldAs s t l m rules qs st T) : (∀ r ∈ rules, RuleOk r) ∧ ∀ r ∈ qs, RuleOk r :=
  ⟨fun r hr => treeRules_ok T 0 F.src.ok r (by rw [← F.src.rulesEq]; exact hr), fun r hr => treeRules_ok _ 0 F.dst.ok r (by rw [← F.dst.rulesEq]; exact hr)⟩
theorem FoldAs.claims (F : FoldAs s t l m rules qs st T) (k : Int) (media : List B) : rcl m k media qs = rcl l k media (keepP (goes st) 0 rules) := by
  rw [rcl_rel F.rel F.rules_ok.2, ← rcl_strip, F.kept, keepP_map, rcl_strip]
theorem fold_declared (F : FoldAs s t l m rules qs st T) (S : IsStays l rules st) (k : Int) (media : List B) : cDeclared m k qs media = cDeclared l k rules media := by
  cases hr : inR l k with
  | false =>
    unfold cDeclared
    rw [rel_inR F.rel, hr]
    rfl
  | true =>
    obtain ⟨j, rfl⟩ : ∃ j : Nat, k = (j : Int) := ⟨k.toNat, by simp [inR] at hr; omega⟩
    have hj : j < l.length := by simp [inR] at hr; omega
    have hn := List.getElem?_eq_getElem hj
    generalize l[j] = n at hn
    obtain ⟨n', hn', hnr⟩ := F.rel.get hn
    rw [declared_eq hn (fun r hr => plain_none F.src.plain r hr) F.src.own, declared_eq hn' (fun r hr => plain_none F.dst.plain r hr) F.dst.own, (F.look_own hn hn').1, F.claims]
    congr 1
    refine look_ext fun x => ?_
    rw [winner_app, winner_app, winner_ownLook, winner_app]
    by_cases hst : ∃ r ∈ keepP (goes st) 0 rules, (j, x) ∈ touches l r
    · obtain ⟨r, hrm, hrt⟩ := hst
      have hgone : ∀ q ∈ goneR rules st, (j, x) ∉ touches l q := fun q hq ht => apart S hrm hq hrt ht
      rw [rcl_none hj hgone]
      rw [rcl_keep (media := media) (n := x) hj (goes st) rules 0 fun i q hq hg => hgone q (by rw [gone_keep S.len]; exact (mem_keepP_iff _).2 ⟨i, hq, by rw [hg]; rfl⟩)]
      have hc : comb none (winner (ownClaims (ownOf n)) x) = winner (ownClaims (ownOf n)) x := by cases winner (ownClaims (ownOf n)) x <;> rfl
      rw [hc]
      cases hw : winner (ownClaims (ownOf n)) x with
      | none => rfl
      | some c => rw [Option.map_some, ← (winner_own hw).1]
    · have hst' : ∀ r ∈ keepP (goes st) 0 rules, (j, x) ∉ touches l r := fun r hr ht => hst ⟨r, hr, ht⟩
      rw [rcl_none hj hst']
      rw [rcl_keep (media := media) (n := x) hj (fun i => !goes st i) rules 0 fun i q hq hg => hst' q ((mem_keepP_iff _).2 ⟨i, hq, by simpa using hg⟩)]
      rw [← gone_keep S.len, rcl_media (media := media) (media' := []) fun q hq => gone_media S hq]
      have hc : ∀ a : Option PClaim, comb none a = a := by intro a; cases a <;> rfl
      rw [hc, Option.map_map]
      rfl
theorem fold_value (F : FoldAs s t l m rules qs st T) (S : IsStays l rules st) (k : Int) (media : List B) (name : B) : cValue m k qs media name = cValue l k rules media name := by
  unfold cValue
  have : ∀ (f : Nat) (k : Int), cValueF f m k qs media name = cValueF f l k rules media name := by
    intro f
    induction f with
    | zero => intro k; rfl
    | succ f ih =>
      intro k
      simp only [cValueF, fold_declared F S, rel_parent F.rel, ih]
  exact this _ k
def noStyle (al : List (B × B)) : List (B × B) := al.filter fun a => !(a.1 == styleName)
theorem fold_left (F : FoldAs s t l m rules qs st T) : qs.length = (keepP (goes st) 0 rules).length ∧ qs.map stripR = (keepP (goes st) 0 rules).map stripR := by
  have := F.kept
  rw [keepP_map] at this
  refine ⟨?_, this⟩
  have := congrArg List.length this
  simpa using this
end
end Go.Proofs.YtplbdlgmjehckadGreatDoor

namespace Go.Proofs.YtplbdlgmjehckadGreatDoor
set_option linter.unusedVariables false
set_option linter.unusedSimpArgs false
theorem ownsEd_of {l : List PNode} {gone : List PRule} : ∀ {ns : List PNode} {k : Nat}, (∀ j n, ns[j]? = some n → (styleText l (k + j) gone).2 = true ∧ ¬ ((pGet n.attrs styleName).2 = false ∧ n.attrs.length = 8 ∧ (styleText l (k + j) gone).1 ≠ [])) →
    ownsEd l gone k ns = .ok (ownL (fun k => (styleText l k gone).1) k ns)
  | [], k, h => rfl
  | n :: ns, k, h => by
    obtain ⟨h1, h2⟩ := h 0 n rfl
    rw [Nat.add_zero] at h1 h2
    have ih := ownsEd_of (l := l) (gone := gone) (ns := ns) (k := k + 1) fun j m hm => by
      have := h (j + 1) m (by simpa using hm)
      rwa [show k + (j + 1) = k + 1 + j from by omega] at this
    simp only [ownsEd, ownL]
    rw [if_neg, ih]
    · rfl
    · rintro (hx | hx)
      · rw [h1] at hx; cases hx
      · exact h2 hx
theorem as_fold {s : B} {l : List PNode} {rules : List PRule} {st : List Bool} {T : PT} (h : ReadAs s l rules T) (hs : st.length = rules.length)
    (hc : ∀ j n, l[j]? = some n → (styleText l j (goneR rules st)).2 = true ∧ n.attrs.length < 8)
    (hl : (textP (foldP (fun k => (styleText l k (goneR rules st)).1) (goes st) 0 0 T)).length ≤ 6000) :
    fFold s l rules st = .ok (textP (foldP (fun k => (styleText l k (goneR rules st)).1) (goes st) 0 0 T)) := by
  have ht : sortEd ((goneR rules st).map goneEd ++ ownL (fun k => (styleText l k (goneR rules st)).1) 0 l) = treeEd (fun k => (styleText l k (goneR rules st)).1) (goes st) 0 0 0 T := by
    refine sortEd_eq (tree_rise _ _ T 0 0 0 h.ok).1 ?_
    refine (tree_perm _ _ T 0 0 0).trans ?_
    rw [← gone_tree _ T 0 0 h.ok, ← h.rulesEq, ← gone_keep hs, ← own_tree _ T 1 0 0 (-1) h.wf, ← h.nodes]
  have hp := page_makes (fun k => (styleText l k (goneR rules st)).1) (goes st) h.wf h.ok
  rw [← h.text] at hp
  unfold fFold
  rw [ownsEd_of (fun j n hn => by
    obtain ⟨h1, h2⟩ := hc j n hn
    rw [Nat.zero_add]
    exact ⟨h1, fun hx => by omega⟩), Ans.ok_then, ht, hp.2, if_neg (by omega)]
structure TopW (w : B) : Prop where
  word : WordOk w
  len : w.length ≤ 20
theorem TopW.val {w : B} (h : TopW w) : ValOk w := word_valOk h.word (by have := h.len; omega)
theorem word_head {w : B} (h : WordOk w) : ∃ c t, w = c :: t ∧ isWord c = true := by
  obtain ⟨hne, hall⟩ := h
  cases w with
  | nil => exact absurd rfl hne
  | cons c t => exact ⟨c, t, rfl, hall c (by simp)⟩
theorem decl_said {nm w g r m : B} {st : Bool} {n : Nat} (h1 : NameOk nm) (hw : WordOk w) (hl : w.length ≤ 60) (hg : IsGap g) (hr : stops r = true) (hrw : r.head?.any isWord = false) (hgw : (g ++ r).head?.any isWord = false) (hne : g ++ r ≠ [] ∨ True)
    (hs : ∀ b, sStrong r b = .ok (st, m, b + n)) (b : Nat) : sDecl (nm ++ ([58] ++ (w ++ (g ++ r)))) b = .ok (⟨nm, w, st⟩, m, b + (nm.length + (1 + (w.length + (g.length + n))))) := by
  obtain ⟨c, t, hc, hcw⟩ := word_head hw
  have hst : stops (w ++ (g ++ r)) = true := by rw [hc]; exact word_stops _ hcw
  unfold sDecl
  rw [then_of (name_read h1 (by rfl) b)]
  simp only
  rw [then_of (gap_stop _ (by exact stops_cons (c := 58) _ (by decide)))]
  simp only
  rw [then_of (show pMust [58] ([58] ++ (w ++ (g ++ r))) (b + nm.length) = .ok (w ++ (g ++ r), b + nm.length + 1) from by unfold pMust; rw [if_pos (prefix_pos _ _)]; rfl)]
  simp only
  rw [then_of (gap_stop _ hst)]
  simp only
  have hv : sVal (w ++ (g ++ r)) (b + nm.length + 1) = .ok (w, r, b + nm.length + 1 + w.length + g.length) := by
    unfold sVal
    have := val_read [w] [] g r ((w ++ (g ++ r)).length + 1) (b + nm.length + 1) (by simp) (by simpa using hw) (by simpa [joinW] using hl) hg hr hrw hgw (by rw [hc]; simp)
    simpa [joinW] using this
  rw [then_of hv]
  simp only
  rw [then_of (hs _)]
  simp only
  congr 3
  omega
theorem strong_no {r : B} (h : ([33] : B).isPrefixOf r = false) (b : Nat) : sStrong r b = .ok (false, r, b + 0) := by unfold sStrong; rw [h]; rfl
def declStop (m : B) : Prop := m = [] ∨ (∃ t, m = 59 :: t) ∨ ∃ t, m = 125 :: t
theorem declStop.facts {m : B} (h : declStop m) : stops m = true ∧ m.head?.any isWord = false ∧ ([33] : B).isPrefixOf m = false := by
  rcases h with rfl | ⟨t, rfl⟩ | ⟨t, rfl⟩
  · exact ⟨rfl, rfl, rfl⟩
  · exact ⟨stops_cons _ (by decide), rfl, rfl⟩
  · exact ⟨stops_cons _ (by decide), rfl, rfl⟩
structure DeclT (t : B) (d : PDecl) : Prop where
  read : ∀ m, declStop m → ∀ b, sDecl (t ++ m) b = .ok (d, m, b + t.length)
  head : ∃ c u, t = c :: u ∧ isLow c = true
def declText (nm w : B) : B := nm ++ ([58] ++ w)
def bang : B := [33] ++ importantWord
theorem declT_plain {nm w : B} (h1 : NameOk nm) (hw : TopW w) : DeclT (declText nm w) ⟨nm, w, false⟩ := by
  refine ⟨fun m hm b => ?_, ?_⟩
  · obtain ⟨q1, q2, q3⟩ := hm.facts
    have := decl_said (g := []) (r := m) (m := m) (st := false) (n := 0) h1 hw.word (by have := hw.len; omega) .nil q1 q2 q2 (.inr trivial) (strong_no q3) b
    simp only [List.nil_append, List.length_nil] at this
    have e : declText nm w ++ m = nm ++ ([58] ++ (w ++ m)) := by simp [declText]
    rw [e, this]
    simp [declText]; omega
  · obtain ⟨⟨c, t, rfl, hc⟩, _⟩ := name_all h1
    exact ⟨c, _, rfl, hc⟩
theorem DeclT.ready {t : B} {d : PDecl} (h : DeclT t d) (m : B) : stops (t ++ m) = true ∧ ((t ++ m).isEmpty || ([125] : B).isPrefixOf (t ++ m)) = false := by
  obtain ⟨c, u, rfl, hc⟩ := h.head
  exact low_ready _ hc
theorem decls_one {t : B} {d : PDecl} (h : DeclT t d) {m : B} (hm : m = [] ∨ ∃ u, m = 125 :: u) (b : Nat) : sDecls (t ++ m) b = .ok ([d], m, b + t.length) := by
  unfold sDecls
  rw [then_of (gap_stop _ (h.ready m).1)]
  simp only [sDeclsL]
  rw [(h.ready m).2, if_neg (by simp), if_neg (by simp), then_of (h.read m (hm.imp id .inr) b)]
  simp only
  have : ([59] : B).isPrefixOf m = false := by
    rcases hm with rfl | ⟨u, rfl⟩ <;> rfl
  rw [this]; rfl
structure SelT (t : B) (ss : List PSel) : Prop where
  read : ∀ (m : B) (b : Nat), sSelsL ((t ++ (123 :: m)).length + 1) [] (t ++ (123 :: m)) b = .ok (ss, 123 :: m, b + t.length)
  head : ∃ c u, t = c :: u ∧ headCh c = true
def ruleText (s d : B) : B := s ++ ([123] ++ (d ++ [125]))
theorem ruleT_of {s t : B} {ss : List PSel} {d : PDecl} (hs : SelT s ss) (hd : DeclT t d) : RuleT (ruleText s t) ss [d] := by
  refine ⟨fun md m b => ?_, ?_⟩
  · unfold sRule
    have e : ruleText s t ++ m = s ++ (123 :: (t ++ (125 :: m))) := by simp [ruleText]
    rw [e, then_of (hs.read _ _)]
    simp only
    rw [then_of (show pMust [123] (123 :: (t ++ (125 :: m))) (b + s.length) = .ok (t ++ (125 :: m), b + s.length + 1) from rfl)]
    simp only
    rw [then_of (decls_one hd (.inr ⟨_, rfl⟩) _)]
    simp only
    rw [then_of (show pMust [125] (125 :: m) (b + s.length + 1 + t.length) = .ok (m, b + s.length + 1 + t.length + 1) from rfl)]
    simp only
    have : b + s.length + 1 + t.length + 1 = b + (ruleText s t).length := by simp [ruleText]; omega
    rw [this]
  · obtain ⟨c, u, rfl, hc⟩ := hs.head
    exact ⟨c, _, rfl, hc⟩
def tyP (c : UInt8) : PSel := [⟨0, [⟨1, [c], []⟩]⟩]
theorem selT_of {t : B} {ss : List PSel} (h : sSelsL (t.length + 2) [] (t ++ [123]) 0 = .ok (ss, [123], t.length)) (hh : ∃ c u, t = c :: u ∧ headCh c = true) : SelT t ss := by
  obtain ⟨t', h1, h2, h3, h4⟩ := selsL_loc _ _ _ _ _ _ _ h
  obtain rfl : t = t' := List.append_cancel_right h1
  exact ⟨fun m b => h4 _ _ b (by simp; omega) (Same.guard (by decide) _ _), hh⟩
theorem selT_p : SelT [112] [tyP 112] := selT_of (by decide +kernel) ⟨112, [], rfl, by decide⟩
def wideW : B := [119, 105, 100, 101]
def wideHead : B := [32, 119, 105, 100, 101, 123]
theorem headT_wide : HeadT wideW wideHead := by
  obtain ⟨t, h1, h2, h3, h4⟩ := mediaHead_loc (show sMediaHead wideHead 0 = .ok (wideW, [], 6) by decide +kernel)
  rw [List.append_nil] at h1
  subst h1
  exact ⟨h4, h3⟩
theorem top_fold {s : B} {l : List PNode} {rules : List PRule} {st : List Bool} {T : PT} (R : ReadAs s l rules T) (hst : st.length = rules.length)
    (hx : ∀ (j : Nat) (n : PNode), l[j]? = some n → (cLook (rcl l (j : Int) [] (goneR rules st) ++ ownClaims (ownOf n))).length ≤ 20 ∧ n.attrs.length < 8)
    (hlen : ∀ tx : Nat → B, (∀ (j : Nat) (n : PNode), l[j]? = some n → tx j = sPrint (cLook (rcl l (j : Int) [] (goneR rules st) ++ ownClaims (ownOf n)))) → (textP (foldP tx (goes st) 0 0 T)).length ≤ 6000) :
    ∃ tx : Nat → B, (∀ (j : Nat) (n : PNode), l[j]? = some n → tx j = sPrint (cLook (rcl l (j : Int) [] (goneR rules st) ++ ownClaims (ownOf n)))) ∧ fFold s l rules st = .ok (textP (foldP tx (goes st) 0 0 T)) := by
  have hgone : ∀ r ∈ goneR rules st, r ∈ rules := fun r hr => by rw [gone_keep hst] at hr; exact mem_keepP _ hr
  have htx : ∀ (j : Nat) (n : PNode), l[j]? = some n → (styleText l j (goneR rules st)).1 = sPrint (cLook (rcl l (j : Int) [] (goneR rules st) ++ ownClaims (ownOf n))) := fun j n hn => (style_as R hgone hn).text
  refine ⟨fun k => (styleText l k (goneR rules st)).1, htx, as_fold R hst (fun j n hn => ?_) (hlen _ htx)⟩
  obtain ⟨h1, h2⟩ := hx j n hn
  exact ⟨by rw [(style_as R hgone hn).fits]; simpa using h1, h2⟩
theorem top_style {s t : B} {l : List PNode} {rules : List PRule} {st : List Bool} {T : PT} (R : ReadAs s l rules T) (hst : st.length = rules.length) (hf : fFold s l rules st = .ok t) :
    ∃ m, pParse t = .ok m ∧ m.length = l.length ∧ ∀ (k : Nat) (n : PNode), l[k]? = some n → ∃ n', m[k]? = some n' ∧ (pGet n'.attrs styleName).1 = sPrint (cLook (rcl l (k : Int) [] (goneR rules st) ++ ownClaims (ownOf n))) := by
  obtain ⟨m, qs, F⟩ := fold_reads R hst hf
  have hp : pParse t = .ok m := by
    have := page_read F.dst.wf (by rw [← F.dst.text]; exact F.dst.len) F.dst.few
    rwa [← F.dst.text, ← F.dst.nodes] at this
  refine ⟨m, hp, F.rel.len.symm, fun k n hn => ?_⟩
  obtain ⟨n', h1, h2⟩ := F.rel.get hn
  refine ⟨n', h1, ?_⟩
  rw [pGet_pr, h2.attrs, getP_set_style, Nat.zero_add, (F.style k n hn).1.text]
end Go.Proofs.YtplbdlgmjehckadGreatDoor

namespace Go.Proofs.YtplbdlgmjehckadGreatDoor
set_option linter.unusedVariables false
set_option linter.unusedSimpArgs false
def rul (s : B) (ss : List PSel) (t : B) (d : PDecl) : In1 := .rule (ruleText s t) ss [d]
theorem rul_wf {s t : B} {ss : List PSel} {d : PDecl} (hs : SelT s ss) (hd : DeclT t d) : (rul s ss t d).wf := ruleT_of hs hd
theorem name_color : NameOk colorName := ⟨by decide +kernel, by decide, by decide⟩
theorem name_size : NameOk sizeName := ⟨by decide +kernel, by decide, by decide⟩
def declTextB (nm w : B) : B := nm ++ [58, 32] ++ w ++ []
def selQ : PSel := [⟨0, [⟨3, [113], []⟩]⟩]
def selK : PSel := [⟨0, [⟨2, [107], []⟩]⟩]
def rid (a : B) : In1 := rul [35, 113] [selQ] (declText colorName a) ⟨colorName, a, false⟩
def rcls (a : B) : In1 := rul [46, 107] [selK] (declText colorName a) ⟨colorName, a, false⟩
def rtyp (a : B) : In1 := rul [112] [tyP 112] (declText colorName a) ⟨colorName, a, false⟩
theorem setStyle_len (al : List (B × B)) (t : B) (hn : (al.map (·.1)).Nodup) : (attrsText (setStyle al t)).length ≤ (attrsText al).length + (t.length + 9) := by
  unfold setStyle
  split
  · split
    · clear hn
      rename_i h1 h2
      clear h1 h2
      induction al with
      | nil => simp [attrsText]
      | cons a al ih =>
        simp only [List.filter_cons]
        split
        · simp only [attrsText, List.length_append] at ih ⊢; omega
        · simp only [attrsText, List.length_append] at ih ⊢; omega
    · rename_i h1 h2
      clear h1 h2
      induction al with
      | nil => simp [attrsText]
      | cons a al ih =>
        rw [List.map_cons, List.nodup_cons] at hn
        by_cases ha : a.1 = styleName
        · have hno : hasStyle al = false := noStyle_of (by rw [← ha]; exact hn.1)
          rw [List.map_cons, noStyle_map t hno, if_pos ha]
          simp only [attrsText, List.length_append]
          have : (attrText (a.1, t)).length = 9 + t.length := by rw [ha]; simp [attrText, styleName]; omega
          omega
        · have := ih hn.2
          rw [List.map_cons, if_neg ha]
          simp only [attrsText, List.length_append]
          omega
  · split
    · omega
    · simp only [attrsText, List.length_append]
      have : (attrText (styleName, t)).length = 9 + t.length := by simp [attrText, styleName]; omega
      omega
theorem fold_len (tx : Nat → B) (g : Nat → Bool) (M : Nat) : ∀ (T : PT) (d c i : Nat), wfP d T → okP T → (∀ k, c ≤ k → k < c + sizeP T → (tx k).length ≤ M) → (textP (foldP tx g c i T)).length ≤ (textP T).length + sizeP T * (M + 9)
  | .nil, _, _, _, _, _, _ => by simp [foldP, textP]
  | .text x n, d, c, i, hw, ho, h => by
    have := fold_len tx g M n d c i hw.2.2 ho h
    simp only [foldP, textP, List.length_cons, sizeP]; omega
  | .note x n, d, c, i, hw, ho, h => by
    have := fold_len tx g M n d c i hw.2 ho h
    simp only [foldP, textP, List.length_append, sizeP]; omega
  | .elem nm al kids n, d, c, i, hw, ho, h => by
    obtain ⟨h1, h2, h3, h4, h5, h6⟩ := hw
    have a1 := fold_len tx g M kids (d + 1) (c + 1) i h5 ho.1 (fun k k1 k2 => h k (by omega) (by simp only [sizeP]; omega))
    have a2 := fold_len tx g M n d (c + 1 + sizeP kids) (i + nRulesP kids) h6 ho.2 (fun k k1 k2 => h k (by omega) (by simp only [sizeP]; omega))
    have a3 := setStyle_len al (tx c) h4.apart
    have a4 := h c (Nat.le_refl _) (by simp only [sizeP]; omega)
    simp only [foldP, textP, openText, closeText, List.length_append, sizeP, Nat.add_mul, Nat.one_mul] at *
    omega
  | .style al inner n, d, c, i, hw, ho, h => by
    obtain ⟨h1, h4, h5, h6⟩ := hw
    obtain ⟨⟨rs, hr⟩, ho⟩ := ho
    have a2 := fold_len tx g M n d (c + 1) (i + (rulesOf inner).length) h6 ho (fun k k1 k2 => h k (by omega) (by simp only [sizeP]; omega))
    have a3 := setStyle_len al (tx c) h4.apart
    have a4 := h c (Nat.le_refl _) (by simp only [sizeP]; omega)
    have a5 := splice_len (fun j => g (i + j)) rs 0 0 (Nat.zero_le _) (parse_placed hr)
    rw [splice_shift] at a5
    rw [← rulesOf_ok hr] at a5
    simp only [Nat.add_zero] at a5
    simp only [foldP, textP, openText, closeText, List.length_append, sizeP, Nat.add_mul, Nat.one_mul] at *
    omega
structure TopAs (T : PT) (rs0 : List PRule) : Prop where
  wf : wfP 1 T
  ok : okP T
  len : (textP T).length ≤ 1000
  few : sizeP T ≤ 8
  rules : (treeRules 0 T).map stripR = rs0
  most : rs0.length ≤ 8
  plain : ∀ r ∈ rs0, pAll r.decls ≠ none
  own : nodesBad (nodesP (-1) 0 0 T) = none
theorem TopAs.read {T : PT} {rs0 : List PRule} (h : TopAs T rs0) : ReadAs (textP T) (nodesP (-1) 0 0 T) (treeRules 0 T) T := by
  have hm := h.most
  rw [← h.rules, List.length_map] at hm
  refine ⟨by have := h.len; omega, h.wf, h.ok, by have := h.few; omega, rfl, rfl, rfl, by omega, ?_, h.own⟩
  refine none_plain fun r hr => ?_
  have := h.plain (stripR r) (by rw [← h.rules]; exact List.mem_map.2 ⟨r, hr, rfl⟩)
  exact this
theorem own_none {l : List PNode} (h : ∀ n ∈ l, ∀ a ∈ n.attrs, a.name ≠ styleName) : nodesBad l = none := by
  unfold nodesBad
  rw [List.findSome?_eq_none_iff]
  intro a ha
  obtain ⟨n, hn, ha⟩ := List.mem_flatMap.1 ha
  unfold attrBad
  rw [if_neg (h n hn a ha)]
def weightT (xs : List In1) : PT := .style [] (textIn xs) (.elem [112] [(className, [107]), (idName, [113])] (.text 120 .nil) (.elem [112] [(className, [107])] (.text 121 .nil) (.elem [112] [] (.text 122 .nil) .nil)))
def sr (ss : List PSel) (d : PDecl) : PRule := ⟨[], ss, [d], 0, 0⟩
def wOrder {α : Type} (x y z : α) : Nat → List α
  | 0 => [x, y, z]
  | 1 => [x, z, y]
  | 2 => [y, x, z]
  | 3 => [y, z, x]
  | 4 => [z, x, y]
  | _ => [z, y, x]
def wXs (a b c : B) (o : Nat) : List In1 := wOrder (rid a) (rcls b) (rtyp c) o
def wRs (a b c : B) (o : Nat) : List PRule := wOrder (sr [selQ] ⟨colorName, a, false⟩) (sr [selK] ⟨colorName, b, false⟩) (sr [tyP 112] ⟨colorName, c, false⟩) o
theorem no_tag : ∀ {w : B}, (∀ c ∈ w, c ≠ 60) → findSub styleEnd (w ++ styleEnd) = some w.length
  | [], _ => by decide
  | c :: w, h => by
    have ih := no_tag (w := w) fun x hx => h x (by simp [hx])
    have hp : styleEnd.isPrefixOf (c :: (w ++ styleEnd)) = false := by
      rw [← Bool.not_eq_true]; intro hp
      exact h c (by simp) (prefix_head hp).symm
    exact NoIn.cons (w := styleEnd) (x := c) (y := w) hp ih
theorem word_ne60 {w : B} (h : WordOk w) : ∀ c ∈ w, c ≠ 60 := by
  rintro c hc rfl
  have := h.2 _ hc
  cases this
theorem attrNone : AttrsOk [] := ⟨by simp, by simp, by simp, by simp⟩
theorem name_p : NameOk [112] := ⟨by decide +kernel, by decide, by decide⟩
theorem declText_ne60 {nm w : B} (h1 : ∀ c ∈ nm, c ≠ 60) (hw : WordOk w) : ∀ c ∈ declText nm w, c ≠ 60 := by
  have g := word_ne60 hw
  simp only [declText, List.mem_append]
  rintro x (h | h | h)
  · exact h1 x h
  · revert x; decide
  · exact g x h
theorem rul_ne60 {s t : B} {ss : List PSel} {d : PDecl} (h1 : ∀ c ∈ s, c ≠ 60) (h2 : ∀ c ∈ t, c ≠ 60) : ∀ c ∈ (rul s ss t d).text, c ≠ 60 := by
  simp only [rul, In1.text, ruleText, List.mem_append]
  rintro x (h | h | h | h)
  · exact h1 x h
  · revert x; decide
  · exact h2 x h
  · revert x; decide
end Go.Proofs.YtplbdlgmjehckadGreatDoor

namespace Go.Proofs.YtplbdlgmjehckadGreatDoor
set_option linter.unusedVariables false
set_option linter.unusedSimpArgs false
def alive6In : B := [60, 115, 116, 121, 108, 101, 62, 112, 123, 99, 111, 108, 111, 114, 58, 114, 101, 100, 125, 60, 47, 115, 116, 121, 108, 101, 62, 60, 112, 62, 120, 60, 47, 112, 62]
def alive6Out : B := [60, 115, 116, 121, 108, 101, 62, 32, 60, 47, 115, 116, 121, 108, 101, 62, 60, 112, 32, 115, 116, 121, 108, 101, 61, 34, 99, 111, 108, 111, 114, 58, 32, 114, 101, 100, 34, 62, 120, 60, 47, 112, 62]
def aliveTIn : B := [60, 115, 116, 121, 108, 101, 62, 112, 123, 99, 111, 108, 111, 114, 58, 114, 101, 100, 125, 32, 64, 109, 101, 100, 105, 97, 32, 119, 105, 100, 101, 123, 112, 123, 115, 105, 122, 101, 58, 49, 50, 125, 125, 32, 98, 123, 115, 105, 122, 101, 58, 57, 125, 60, 47, 115, 116, 121, 108, 101, 62, 60, 112, 62, 60, 98, 62, 120, 60, 47, 98, 62, 60, 47, 112, 62]
def aliveTOut : B := [60, 115, 116, 121, 108, 101, 62, 32, 32, 64, 109, 101, 100, 105, 97, 32, 119, 105, 100, 101, 123, 112, 123, 115, 105, 122, 101, 58, 49, 50, 125, 125, 32, 32, 60, 47, 115, 116, 121, 108, 101, 62, 60, 112, 32, 115, 116, 121, 108, 101, 61, 34, 99, 111, 108, 111, 114, 58, 32, 114, 101, 100, 34, 62, 60, 98, 32, 115, 116, 121, 108, 101, 61, 34, 115, 105, 122, 101, 58, 32, 57, 34, 62, 120, 60, 47, 98, 62, 60, 47, 112, 62]
def okOf {α : Type} (d : α) : Ans α → α
  | .ok a => a
  | .bad _ => d
def isOk {α : Type} : Ans α → Bool
  | .ok _ => true
  | .bad _ => false
theorem okOf_eq {α : Type} {d : α} {a : Ans α} (h : isOk a = true) : a = .ok (okOf d a) := by
  cases a with
  | ok a => rfl
  | bad f => cases h
def alive6L : List PNode × List PRule := okOf ([], []) (fRead alive6In)
def aliveTL : List PNode × List PRule := okOf ([], []) (fRead aliveTIn)
theorem aliveT_read : fRead aliveTIn = .ok aliveTL := okOf_eq (by decide +kernel)
theorem aliveT_touch : aliveTL.2.map (touches aliveTL.1) = [[(1, colorName)], [(1, sizeName)], [(2, sizeName)]] := by decide +kernel
theorem aliveT_media : aliveTL.2.map (·.media) = [[], [119, 105, 100, 101], []] := by decide +kernel
theorem aliveT_fold : fFold aliveTIn aliveTL.1 aliveTL.2 [false, true, false] = .ok aliveTOut := by decide +kernel
theorem aliveT {st : List Bool} (S : IsStays aliveTL.1 aliveTL.2 st) : fFold aliveTIn aliveTL.1 aliveTL.2 st = .ok aliveTOut := by
  have ht : ∀ (i : Nat) (r : PRule), aliveTL.2[i]? = some r → [[(1, colorName)], [(1, sizeName)], [(2, sizeName)]][i]? = some (touches aliveTL.1 r) := fun i r hi => by rw [← aliveT_touch, List.getElem?_map, hi]; rfl
  have hm : ∀ (i : Nat) (r : PRule), aliveTL.2[i]? = some r → [[], [119, 105, 100, 101], []][i]? = some r.media := fun i r hi => by rw [← aliveT_media, List.getElem?_map, hi]; rfl
  have hl : aliveTL.2.length = 3 := by
    have := congrArg List.length aliveT_media
    simpa using this
  have key : ∀ i, Stay aliveTL.1 aliveTL.2 i → i = 1 := by
    intro i h
    induction h with
    | @media i r hi hmd =>
      have := hm i r hi
      match i, this with
      | 0, this => simp at this; exact absurd this hmd
      | 1, _ => rfl
      | 2, this => simp at this; exact absurd this hmd
      | i + 3, this => simp at this
    | @meet i j r q p hi hj hs h1 h2 ih =>
      subst ih
      have a := ht i r hi
      have b := ht 1 q hj
      simp at b
      rw [← b] at h2
      simp only [List.mem_cons, List.not_mem_nil, or_false] at h2
      subst h2
      match i, a with
      | 0, a => simp at a; rw [← a] at h1; simp [sizeName, colorName] at h1
      | 1, _ => rfl
      | 2, a => simp at a; rw [← a] at h1; simp at h1
      | i + 3, a => simp at a
  have s1 : Stay aliveTL.1 aliveTL.2 1 := by
    have h := List.getElem?_eq_getElem (show 1 < aliveTL.2.length by omega)
    refine .media h ?_
    have := hm 1 _ h
    simp at this
    rw [← this]; simp
  have hst : st = [false, true, false] := by
    have hlen := S.len
    rw [hl] at hlen
    match st, hlen, S with
    | [b0, b1, b2], _, S =>
      have h0 := S.iff 0 b0 rfl
      have h1 := S.iff 1 b1 rfl
      have h2 := S.iff 2 b2 rfl
      rw [h1.2 s1]
      have e0 : b0 = false := by
        cases b0 with
        | false => rfl
        | true => have := key 0 (h0.1 rfl); omega
      have e2 : b2 = false := by
        cases b2 with
        | false => rfl
        | true => have := key 2 (h2.1 rfl); omega
      rw [e0, e2]
  rw [hst]
  exact aliveT_fold
end Go.Proofs.YtplbdlgmjehckadGreatDoor

namespace Go.Proofs.YtplbdlgmjehckadGreatDoor
set_option linter.unusedVariables false
set_option linter.unusedSimpArgs false
def strongT (x : In1) (u : B) : PT := .style [] (textIn [x]) (.elem [112] [(styleName, u)] (.text 120 .nil) .nil)
def strongB (nm w : B) : B := nm ++ [58, 32] ++ w ++ ([32, 33] ++ importantWord)
def edgeT (xs : List In1) : PT := .style [] (textIn xs) (.elem [112] [] (.text 120 .nil) .nil)
def redge (a : B) : In1 := rul [112] [tyP 112] (declText edgeName a) ⟨edgeName, a, false⟩
def rleft (b : B) : In1 := rul [112] [tyP 112] (declText edgeLeft b) ⟨edgeLeft, b, false⟩
def eXs (a b : B) (o : Bool) : List In1 := if o then [redge a, rleft b] else [rleft b, redge a]
def eRs (a b : B) (o : Bool) : List PRule := if o then [sr [tyP 112] ⟨edgeName, a, false⟩, sr [tyP 112] ⟨edgeLeft, b, false⟩] else [sr [tyP 112] ⟨edgeLeft, b, false⟩, sr [tyP 112] ⟨edgeName, a, false⟩]
def eLook (a b : B) (o : Bool) : List PDecl := [⟨edgeBottom, a, false⟩, ⟨edgeLeft, if o then b else a, false⟩, ⟨edgeRight, a, false⟩, ⟨edgeTop, a, false⟩]
end Go.Proofs.YtplbdlgmjehckadGreatDoor

namespace Go.Proofs.YtplbdlgmjehckadGreatDoor
set_option linter.unusedVariables false
set_option linter.unusedSimpArgs false
def behindA : Nat → List PAttr → Nat
  | p, [] => p
  | _, a :: al => behindA a.hi.toNat al
def restTo (n : PNode) : Nat := if n.name = styleName then n.inT.toNat else behindA n.nameEnd.toNat n.attrs
def restF (s : B) : Nat → List PNode → B
  | a, [] => s.drop a
  | a, n :: ns => sub s a n.nameEnd.toNat ++ restF s (restTo n) ns
def runsA (s : B) : Nat → List PAttr → Prop
  | p, [] => s[p]? = some 62
  | p, a :: al => a.lo = (p : Int) ∧ s[p]? = some 32 ∧ (p : Int) < a.hi ∧ runsA s a.hi.toNat al
def restOk (s : B) : Nat → List PNode → Prop
  | a, [] => a ≤ s.length
  | a, n :: ns => (a : Int) ≤ n.nameEnd ∧ n.nameEnd.toNat ≤ s.length ∧ runsA s n.nameEnd.toNat n.attrs ∧ 0 ≤ n.inT ∧ restOk s (restTo n) ns
def restP : PT → B
  | .nil => []
  | .text c n => c :: restP n
  | .note x n => noteBegin ++ (x ++ (noteEnd ++ restP n))
  | .elem nm al kids n => [60] ++ (nm ++ ([62] ++ (restP kids ++ (closeText nm ++ restP n))))
  | .style al inner n => [60] ++ (styleName ++ (closeText styleName ++ restP n))
theorem restOk.early {s : B} {a b : Nat} {ns : List PNode} (h : restOk s b ns) (hab : a ≤ b) : restOk s a ns := by
  cases ns with
  | nil => exact Nat.le_trans hab h
  | cons n ns => obtain ⟨h1, h2⟩ := h; exact ⟨by omega, h2⟩
theorem restOk.from {s : B} {a b : Nat} {ns : List PNode} (h : restOk s b ns) (hab : a ≤ b) : restF s a ns = sub s a b ++ restF s b ns := by
  cases ns with
  | nil => simp only [restF]; exact (sub_to hab).symm
  | cons n ns =>
    obtain ⟨h1, h2, _⟩ := h
    simp only [restF]
    rw [← List.append_assoc, sub_append s hab (by omega)]
end Go.Proofs.YtplbdlgmjehckadGreatDoor

namespace Go.Proofs.YtplbdlgmjehckadGreatDoor
set_option linter.unusedVariables false
set_option linter.unusedSimpArgs false
def rco (a : B) : In1 := rul [112] [tyP 112] (declText colorName a) ⟨colorName, a, false⟩
def rsz (b : B) : In1 := rul [98] [tyP 98] (declText sizeName b) ⟨sizeName, b, false⟩
def whereP (n : PT) : PT := .elem [112] [] (.text 120 (.elem [98] [] (.text 121 .nil) .nil)) n
def whereT (a b : B) : Nat → PT
  | 0 => .style [] (textIn [rco a, rsz b]) (whereP .nil)
  | 1 => whereP (.style [] (textIn [rco a, rsz b]) .nil)
  | _ => .style [] (textIn [rco a]) (whereP (.style [] (textIn [rsz b]) .nil))
def wantP (a b : B) (n : PT) : PT := .elem [112] [(styleName, declTextB colorName a)] (.text 120 (.elem [98] [(styleName, declTextB sizeName b)] (.text 121 .nil) .nil)) n
def wantT (a b : B) : Nat → PT
  | 0 => .style [] [32, 32] (wantP a b .nil)
  | 1 => wantP a b (.style [] [32, 32] .nil)
  | _ => .style [] [32] (wantP a b (.style [] [32] .nil))
def wRules (a b : B) : List PRule := [sr [tyP 112] ⟨colorName, a, false⟩, sr [tyP 98] ⟨sizeName, b, false⟩]
def whereLook (a b : B) (o j : Nat) : List PDecl :=
  let k := if o = 1 then j + 1 else j
  if k = 1 then [⟨colorName, a, false⟩] else if k = 2 then [⟨sizeName, b, false⟩] else []
end Go.Proofs.YtplbdlgmjehckadGreatDoor

namespace Go.Proofs.YtplbdlgmjehckadGreatDoor
set_option linter.unusedVariables false
set_option linter.unusedSimpArgs false
def ownU (a b c : B) : B := declText sizeName a ++ (59 :: (declText colorName b ++ (59 :: declText sizeName c)))
def langName : B := [108, 97, 110, 103]
def ownPg (u : B) : PT := .elem [112] [(idName, [113]), (styleName, u), (langName, [101, 110])] (.text 120 .nil) .nil
def ownWant (b c : B) : B := sPrint [⟨colorName, b, false⟩, ⟨sizeName, c, false⟩]
def rsp (b : B) : In1 := rul [112] [tyP 112] (declText sizeName b) ⟨sizeName, b, false⟩
def mediaIts (a b c : B) : List It := [.plain (rco a), .plain (rsp b), .media wideW wideHead [rco c]]
def mediaT (a b c : B) : PT := .style [] (textIt (mediaIts a b c)) (.elem [112] [] (.text 120 .nil) .nil)
def mr (md : B) (d : PDecl) (lo hi : Int) : PRule := ⟨md, [tyP 112], [d], lo, hi⟩
theorem media_rules (a b c : B) : ∃ x0 y0 x1 y1 x2 y2 : Int, (rulesIt 0 (mediaIts a b c)).map (PRule.shift (0 + (openText styleName []).length)) = [mr [] ⟨colorName, a, false⟩ x0 y0, mr [] ⟨sizeName, b, false⟩ x1 y1, mr wideW ⟨colorName, c, false⟩ x2 y2] :=
  ⟨_, _, _, _, _, _, rfl⟩
theorem media_text_len {a b c : B} (ha : TopW a) (hb : TopW b) (hc : TopW c) : (textIt (mediaIts a b c)).length ≤ 200 := by
  have := ha.len; have := hb.len; have := hc.len
  simp [mediaIts, textIt, It.text, textIn, rco, rsp, rul, In1.text, ruleText, declText, colorName, sizeName, mediaWord, wideHead]; omega
theorem media_wf {a b c : B} (ha : TopW a) (hb : TopW b) (hc : TopW c) : ∀ x ∈ mediaIts a b c, x.wf := by
  have h1 : (rco a).wf := rul_wf selT_p (declT_plain name_color ha)
  have h2 : (rsp b).wf := rul_wf selT_p (declT_plain name_size hb)
  have h3 : (rco c).wf := rul_wf selT_p (declT_plain name_color hc)
  simp only [mediaIts, List.mem_cons, List.not_mem_nil, or_false]
  rintro x (rfl | rfl | rfl)
  · exact h1
  · exact h2
  · exact ⟨headT_wide, by simpa using h3⟩
theorem media_ne60 {a b c : B} (ha : TopW a) (hb : TopW b) (hc : TopW c) : ∀ x ∈ textIt (mediaIts a b c), x ≠ 60 := by
  have h1 : ∀ x ∈ (rco a).text, x ≠ 60 := rul_ne60 (by decide) (declText_ne60 (by decide) ha.word)
  have h2 : ∀ x ∈ (rsp b).text, x ≠ 60 := rul_ne60 (by decide) (declText_ne60 (by decide) hb.word)
  have h3 : ∀ x ∈ (rco c).text, x ≠ 60 := rul_ne60 (by decide) (declText_ne60 (by decide) hc.word)
  simp only [mediaIts, textIt, It.text, textIn, List.mem_append, List.append_nil]
  rintro x (h | h | h | h | h | h)
  · exact h1 x h
  · exact h2 x h
  · revert x; decide
  · revert x; decide
  · exact h3 x h
  · revert x; decide
theorem media_read {a b c : B} (ha : TopW a) (hb : TopW b) (hc : TopW c) : ReadAs (textP (mediaT a b c)) (nodesP (-1) 0 0 (mediaT a b c)) (treeRules 0 (mediaT a b c)) (mediaT a b c) ∧
    ∃ x0 y0 x1 y1 x2 y2 : Int, treeRules 0 (mediaT a b c) = [mr [] ⟨colorName, a, false⟩ x0 y0, mr [] ⟨sizeName, b, false⟩ x1 y1, mr wideW ⟨colorName, c, false⟩ x2 y2] := by
  have hl := media_text_len ha hb hc
  have hsp := parse_read (media_wf ha hb hc) (by omega) (by simp [mediaIts, rulesIt, rulesIn, rco, rsp, rul])
  obtain ⟨x0, y0, x1, y1, x2, y2, hr⟩ := media_rules a b c
  have htr : treeRules 0 (mediaT a b c) = [mr [] ⟨colorName, a, false⟩ x0 y0, mr [] ⟨sizeName, b, false⟩ x1 y1, mr wideW ⟨colorName, c, false⟩ x2 y2] := by
    rw [← hr]
    simp only [mediaT, treeRules, rulesOf_ok hsp, List.append_nil]
  refine ⟨⟨?_, ⟨by omega, attrNone, no_tag (media_ne60 ha hb hc), by omega, name_p, by decide, attrNone, ⟨by decide, by decide, trivial⟩, trivial⟩, ⟨⟨_, hsp⟩, trivial, trivial⟩, by simp [mediaT, sizeP], rfl, rfl, rfl, by rw [htr]; simp, ?_, own_none fun n hn x hx => ?_⟩, x0, y0, x1, y1, x2, y2, htr⟩
  · simp [mediaT, textP, openText, closeText, attrsText, attrText, styleName]; omega
  · rw [htr]; rfl
  · simp only [mediaT, nodesP, List.nil_append, List.append_nil, List.mem_cons, List.not_mem_nil, or_false, List.mem_append] at hn
    rcases hn with rfl | rfl <;> cases hx
theorem media_stays {a b c : B} {l : List PNode} (hl : l = nodesP (-1) 0 0 (mediaT a b c)) {x0 y0 x1 y1 x2 y2 : Int} {st : List Bool} (S : IsStays l [mr [] ⟨colorName, a, false⟩ x0 y0, mr [] ⟨sizeName, b, false⟩ x1 y1, mr wideW ⟨colorName, c, false⟩ x2 y2] st) : st = [true, false, true] := by
  subst hl
  have t0 : touches (nodesP (-1) 0 0 (mediaT a b c)) (mr [] ⟨colorName, a, false⟩ x0 y0) = [(1, colorName)] := by rfl
  have t1 : touches (nodesP (-1) 0 0 (mediaT a b c)) (mr [] ⟨sizeName, b, false⟩ x1 y1) = [(1, sizeName)] := by rfl
  have t2 : touches (nodesP (-1) 0 0 (mediaT a b c)) (mr wideW ⟨colorName, c, false⟩ x2 y2) = [(1, colorName)] := by rfl
  have s2 : Stay (nodesP (-1) 0 0 (mediaT a b c)) [mr [] ⟨colorName, a, false⟩ x0 y0, mr [] ⟨sizeName, b, false⟩ x1 y1, mr wideW ⟨colorName, c, false⟩ x2 y2] 2 := .media (r := mr wideW ⟨colorName, c, false⟩ x2 y2) rfl (by simp [mr, wideW])
  have s0 : Stay (nodesP (-1) 0 0 (mediaT a b c)) [mr [] ⟨colorName, a, false⟩ x0 y0, mr [] ⟨sizeName, b, false⟩ x1 y1, mr wideW ⟨colorName, c, false⟩ x2 y2] 0 := .meet (j := 2) (p := (1, colorName)) rfl rfl s2 (by rw [t0]; simp) (by rw [t2]; simp)
  have key : ∀ i, Stay (nodesP (-1) 0 0 (mediaT a b c)) [mr [] ⟨colorName, a, false⟩ x0 y0, mr [] ⟨sizeName, b, false⟩ x1 y1, mr wideW ⟨colorName, c, false⟩ x2 y2] i → i ≠ 1 := by
    intro i h
    induction h with
    | media hi hm =>
      rintro rfl
      cases hi
      exact hm rfl
    | @meet i j r q p hi hj hs h1 h2 ih =>
      rintro rfl
      cases hi
      rw [t1] at h1
      simp only [List.mem_cons, List.not_mem_nil, or_false] at h1
      subst h1
      match j, hj, ih with
      | 0, hj, _ => cases hj; rw [t0] at h2; simp [sizeName, colorName] at h2
      | 1, _, ih => exact ih rfl
      | 2, hj, _ => cases hj; rw [t2] at h2; simp [sizeName, colorName] at h2
      | j + 3, hj, _ => cases hj
  have s1 : ¬ Stay (nodesP (-1) 0 0 (mediaT a b c)) [mr [] ⟨colorName, a, false⟩ x0 y0, mr [] ⟨sizeName, b, false⟩ x1 y1, mr wideW ⟨colorName, c, false⟩ x2 y2] 1 := fun h => key 1 h rfl
  have hlen := S.len
  match st, hlen, S with
  | [b0, b1, b2], _, S =>
    have h0 := S.iff 0 b0 rfl
    have h1 := S.iff 1 b1 rfl
    have h2 := S.iff 2 b2 rfl
    rw [h0.2 s0, h2.2 s2]
    cases b1 with
    | false => rfl
    | true => exact absurd (h1.1 rfl) s1
theorem top_media {a b c : B} (ha : TopW a) (hb : TopW b) (hc : TopW c) {T : PT} (hT : T = mediaT a b c) :
    fRead (textP T) = .ok (nodesP (-1) 0 0 T, treeRules 0 T) ∧ ∀ st, IsStays (nodesP (-1) 0 0 T) (treeRules 0 T) st → ∃ t m qs n1, fFold (textP T) (nodesP (-1) 0 0 T) (treeRules 0 T) st = .ok t ∧ fRead t = .ok (m, qs) ∧ pParse t = .ok m ∧
      m.length = 2 ∧ qs.length = 2 ∧ m[1]? = some n1 ∧ (pGet n1.attrs styleName).1 = declTextB sizeName b ∧ cValue m 1 qs [] colorName = .ok a ∧ cValue m 1 qs [wideW] colorName = .ok c := by
  subst hT
  obtain ⟨R, x0, y0, x1, y1, x2, y2, hr⟩ := media_read ha hb hc
  refine ⟨as_read R, fun st S => ?_⟩
  have hst : st = [true, false, true] := media_stays rfl (by rw [← hr]; exact S)
  have hg : goneR (treeRules 0 (mediaT a b c)) st = [mr [] ⟨sizeName, b, false⟩ x1 y1] := by rw [hr, hst]; rfl
  have hL : ∀ (j : Nat) (n : PNode), (nodesP (-1) 0 0 (mediaT a b c))[j]? = some n →
      cLook (rcl (nodesP (-1) 0 0 (mediaT a b c)) (j : Int) [] [mr [] ⟨sizeName, b, false⟩ x1 y1] ++ ownClaims (ownOf n)) = (if j = 1 then [⟨sizeName, b, false⟩] else []) ∧ n.attrs.length < 8 := by
    intro j n hn
    match j, hn with
    | 0, hn => have := Option.some.inj hn; subst this; exact ⟨by rfl, by rw [attrsAt_len]; decide⟩
    | 1, hn => have := Option.some.inj hn; subst this; exact ⟨by rfl, by rw [attrsAt_len]; decide⟩
    | j + 2, hn => cases hn
  have hin := R.ok
  obtain ⟨tx, h1, h2⟩ := top_fold R S.len (fun j n hn => by
    rw [hg, (hL j n hn).1]
    exact ⟨by split <;> simp, (hL j n hn).2⟩) (fun tx htx => by
    have := fold_len tx (goes st) 95 (mediaT a b c) 1 0 0 R.wf R.ok (fun k _ hk => by
      rw [Nat.zero_add, ← nodesP_len (mediaT a b c) (-1) 0 0] at hk
      have hn := List.getElem?_eq_getElem hk
      rw [htx k _ hn, hg, (hL k _ hn).1]
      have := hb.len
      split
      · simp [sPrint, printOne, sizeName]; omega
      · simp [sPrint])
    have hlen : (textP (mediaT a b c)).length ≤ 400 := by
      have := media_text_len ha hb hc
      simp [mediaT, textP, openText, closeText, attrsText, attrText, styleName]; omega
    have : sizeP (mediaT a b c) = 2 := rfl
    omega)
  obtain ⟨m, qs, F⟩ := fold_reads R S.len h2
  have hp : pParse (textP (foldP tx (goes st) 0 0 (mediaT a b c))) = .ok m := by
    have := page_read F.dst.wf (by rw [← F.dst.text]; exact F.dst.len) F.dst.few
    rwa [← F.dst.text, ← F.dst.nodes] at this
  obtain ⟨m', hp', hml, hsty⟩ := top_style R S.len h2
  rw [hp] at hp'
  cases hp'
  obtain ⟨n1, k1, k2⟩ := hsty 1 _ rfl
  refine ⟨_, m, qs, n1, h2, as_read F.dst, hp, by rw [hml, nodesP_len]; rfl, ?_, k1, ?_, ?_, ?_⟩
  · rw [(fold_left F).1, hr, hst]; rfl
  · rw [k2, hg, (hL 1 _ rfl).1]; rfl
  · have := fold_value F S 1 [] colorName
    rw [this, hr]; rfl
  · have := fold_value F S 1 [wideW] colorName
    rw [this, hr]; rfl
end Go.Proofs.YtplbdlgmjehckadGreatDoor

