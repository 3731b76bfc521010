/-
  Lemmas for the claims of this seat: the program's functions walked, and plain laws. In this order: FoLaws TpTools TpLaws FoAlive FoWays FoRest.
-/
import Derived.Test.YtplbdlgmjehckacGreatDoorPk7
namespace Go.Proofs.YtplbdlgmjehckacGreatDoor
set_option linter.unusedVariables false
set_option linter.unusedSimpArgs false
theorem mem_keepP_iff {α : Type} (p : Nat → Bool) {x : α} : ∀ {xs : List α} {i : Nat}, x ∈ keepP p i xs ↔ ∃ j, xs[j]? = some x ∧ p (i + j) = false
  | [], i => by simp [keepP]
  | y :: ys, i => by
    have ih := mem_keepP_iff p (x := x) (xs := ys) (i := i + 1)
    simp only [keepP]
    constructor
    · intro h
      split at h
      · obtain ⟨j, h1, h2⟩ := ih.1 h
        exact ⟨j + 1, by simpa using h1, by rw [show i + (j + 1) = i + 1 + j from by omega]; exact h2⟩
      · rename_i hp
        rcases List.mem_cons.1 h with rfl | h
        · exact ⟨0, rfl, by simpa using hp⟩
        · obtain ⟨j, h1, h2⟩ := ih.1 h
          exact ⟨j + 1, by simpa using h1, by rw [show i + (j + 1) = i + 1 + j from by omega]; exact h2⟩
    · rintro ⟨j, h1, h2⟩
      cases j with
      | zero =>
        simp only [List.getElem?_cons_zero, Option.some.injEq] at h1
        subst h1
        rw [Nat.add_zero] at h2
        rw [if_neg (by rw [h2]; simp)]
        simp
      | succ j =>
        have := ih.2 ⟨j, by simpa using h1, by rw [show i + 1 + j = i + (j + 1) from by omega]; exact h2⟩
        split
        · exact this
        · exact List.mem_cons_of_mem _ this
theorem goes_iff {l : List PNode} {rules : List PRule} {st : List Bool} (h : IsStays l rules st) {i : Nat} (hi : i < rules.length) : goes st i = false ↔ Stay l rules i := by
  have h1 := List.getElem?_eq_getElem (show i < st.length by rw [h.len]; exact hi)
  have h2 := h.iff _ _ h1
  unfold goes
  rw [h1, ← h2]
  cases st[i]'(by rw [h.len]; exact hi) <;> simp
theorem apart {l : List PNode} {rules : List PRule} {st : List Bool} (h : IsStays l rules st) {r q : PRule} (hr : r ∈ keepP (goes st) 0 rules) (hq : q ∈ goneR rules st) {p : Nat × B} (h1 : p ∈ touches l r) (h2 : p ∈ touches l q) : False := by
  rw [gone_keep h.len] at hq
  obtain ⟨i, hi, gi⟩ := (mem_keepP_iff _).1 hr
  obtain ⟨j, hj, gj⟩ := (mem_keepP_iff _).1 hq
  rw [Nat.zero_add] at gi gj
  have hs := (goes_iff h (List.getElem?_eq_some_iff.1 hi).1).1 gi
  have hs' : Stay l rules j := .meet hj hi hs h2 h1
  have := (goes_iff h (List.getElem?_eq_some_iff.1 hj).1).2 hs'
  rw [this] at gj; cases gj
theorem gone_media {l : List PNode} {rules : List PRule} {st : List Bool} (h : IsStays l rules st) {q : PRule} (hq : q ∈ goneR rules st) : q.media = [] := by
  rw [gone_keep h.len] at hq
  obtain ⟨j, hj, gj⟩ := (mem_keepP_iff _).1 hq
  rw [Nat.zero_add] at gj
  refine Classical.byContradiction fun hm => ?_
  have := (goes_iff h (List.getElem?_eq_some_iff.1 hj).1).2 (.media hj hm)
  rw [this] at gj; cases gj
def cl (l : List PNode) (k : Int) (media : List B) (r : PRule) : List PClaim := if (mBest l k r.sels).2 && counts r media then (plainOf r).map (fun x => ⟨x, false, (mBest l k r.sels).1⟩) else []
theorem rcl_cons (l : List PNode) (k : Int) (media : List B) (r : PRule) (rs : List PRule) : rcl l k media (r :: rs) = cl l k media r ++ rcl l k media rs := rfl
theorem winner_nil (n : B) : winner [] n = none := rfl
theorem cl_none {l : List PNode} {k : Nat} {media : List B} {r : PRule} {n : B} (hk : k < l.length) (h : (k, n) ∉ touches l r) : winner (cl l (k : Int) media r) n = none := by
  have hf := winner_fact (cl l (k : Int) media r) n
  cases hw : winner (cl l (k : Int) media r) n with
  | none => rfl
  | some w =>
    exfalso
    rw [hw] at hf
    obtain ⟨h1, h2, _⟩ := hf
    unfold cl at h1
    split at h1
    · rename_i hb
      obtain ⟨d, hd, rfl⟩ := List.mem_map.1 h1
      rw [Bool.and_eq_true] at hb
      exact h (mem_touches.2 ⟨hk, hb.1, d, hd, h2⟩)
    · cases h1
theorem rcl_keep {l : List PNode} {k : Nat} {media : List B} {n : B} (hk : k < l.length) (p : Nat → Bool) : ∀ (rs : List PRule) (i : Nat), (∀ j r, rs[j]? = some r → p (i + j) = true → (k, n) ∉ touches l r) →
    winner (rcl l (k : Int) media rs) n = winner (rcl l (k : Int) media (keepP p i rs)) n
  | [], _, _ => rfl
  | r :: rs, i, h => by
    have ih := rcl_keep (media := media) hk p rs (i + 1) fun j q hq hp => h (j + 1) q (by simpa using hq) (by rw [show i + (j + 1) = i + 1 + j from by omega]; exact hp)
    rw [rcl_cons, winner_app, ih]
    simp only [keepP]
    split
    · rename_i hp
      rw [cl_none hk (h 0 r rfl (by rw [Nat.add_zero]; exact hp))]
      exact (by cases winner (rcl l (k : Int) media (keepP p (i + 1) rs)) n <;> rfl)
    · rw [rcl_cons, winner_app]
theorem rcl_media {l : List PNode} {k : Int} {media media' : List B} : ∀ {rs : List PRule}, (∀ r ∈ rs, r.media = []) → rcl l k media rs = rcl l k media' rs
  | [], _ => rfl
  | r :: rs, h => by
    rw [rcl_cons, rcl_cons, rcl_media (fun q hq => h q (by simp [hq]))]
    unfold cl counts
    rw [h r (by simp)]
    rfl
theorem rcl_none {l : List PNode} {k : Nat} {media : List B} {n : B} (hk : k < l.length) : ∀ {rs : List PRule}, (∀ r ∈ rs, (k, n) ∉ touches l r) → winner (rcl l (k : Int) media rs) n = none
  | [], _ => rfl
  | r :: rs, h => by
    rw [rcl_cons, winner_app, cl_none hk (h r (by simp)), rcl_none hk fun q hq => h q (by simp [hq])]
    rfl
theorem rcl_strip (l : List PNode) (k : Int) (media : List B) (rs : List PRule) : rcl l k media (rs.map stripR) = rcl l k media rs := by
  induction rs with
  | nil => rfl
  | cons r rs ih => rw [List.map_cons, rcl_cons, rcl_cons, ih]; rfl
theorem rcl_rel {tx : Nat → B} {l m : List PNode} (h : RelL tx 0 l m) {rs : List PRule} (hr : ∀ r ∈ rs, RuleOk r) (k : Int) (media : List B) : rcl m k media rs = rcl l k media rs := by
  induction rs with
  | nil => rfl
  | cons r rs ih =>
    rw [rcl_cons, rcl_cons, ih fun q hq => hr q (by simp [hq])]
    unfold cl
    rw [rel_best h (hr r (by simp)).sels]
theorem winner_own {ds : List PDecl} {n : B} {c : PClaim} (h : winner (ownClaims ds) n = some c) : c = ⟨c.d, true, ⟨0, 0, 0⟩⟩ ∧ c.d ∈ ds ∧ c.d.name = n := by
  have hf := winner_fact (ownClaims ds) n
  rw [h] at hf
  obtain ⟨h1, h2, _⟩ := hf
  unfold ownClaims at h1
  obtain ⟨d, hd, rfl⟩ := List.mem_map.1 h1
  exact ⟨rfl, hd, h2⟩
theorem winner_ownLook (cs : List PClaim) (n : B) : winner (ownClaims (cLook cs)) n = (winner cs n).map fun c => ⟨c.d, true, ⟨0, 0, 0⟩⟩ := by
  cases hw : winner (ownClaims (cLook cs)) n with
  | some w =>
    obtain ⟨h1, h2, h3⟩ := winner_own hw
    obtain ⟨c, hc, hd⟩ := look_mem.1 h2
    rw [h3] at hc
    rw [hc, Option.map_some, hd, ← h1]
  | none =>
    have hf := winner_fact (ownClaims (cLook cs)) n
    rw [hw] at hf
    cases hc : winner cs n with
    | none => rfl
    | some c =>
      exfalso
      have hf2 := winner_fact cs n
      rw [hc] at hf2
      have hm : c.d ∈ cLook cs := look_mem.2 ⟨c, by rw [hf2.2.1]; exact hc, rfl⟩
      exact hf ⟨c.d, true, ⟨0, 0, 0⟩⟩ (List.mem_map.2 ⟨c.d, hm, rfl⟩) hf2.2.1
theorem look_ownLook (cs : List PClaim) : cLook (ownClaims (cLook cs)) = cLook cs := by
  refine look_ext fun n => ?_
  rw [winner_ownLook, Option.map_map]
  rfl
section
variable {s t : B} {l m : List PNode} {rules qs : List PRule} {st : List Bool} {T : PT}
theorem FoldAs.look_own (F : FoldAs s t l m rules qs st T) {k : Nat} {n n' : PNode} (hn : l[k]? = some n) (hn' : m[k]? = some n') :
    ownOf n' = cLook (rcl l (k : Int) [] (goneR rules st) ++ ownClaims (ownOf n)) ∧ (pGet n'.attrs styleName).1 = sPrint (cLook (rcl l (k : Int) [] (goneR rules st) ++ ownClaims (ownOf n))) := by
  obtain ⟨h1, h2⟩ := F.style k n hn
  obtain ⟨m', hm', hr⟩ := F.rel.get hn
  rw [hn'] at hm'
  cases hm'
  rw [Nat.zero_add] at hr
  have hg : (pGet n'.attrs styleName).1 = sPrint (cLook (rcl l (k : Int) [] (goneR rules st) ++ ownClaims (ownOf n))) := by
    rw [pGet_pr, hr.attrs, getP_set_style, h1.text]
  refine ⟨?_, hg⟩
  generalize cLook (rcl l (k : Int) [] (goneR rules st) ++ ownClaims (ownOf n)) = lk at *
  unfold ownOf ownDecls
  rw [hg, print_read (fun d hd => (h1.fine d hd).1) h2]
  simp only
  rw [all_of_plain fun d hd => (h1.fine d hd).2]
theorem FoldAs.rules_ok (F : FoldAs s t l m rules qs st T) : (∀ r ∈ rules, RuleOk r) ∧ ∀ r ∈ qs, RuleOk r :=
  ⟨fun r hr => treeRules_ok T 0 F.src.ok r (by rw [← F.src.rulesEq]; exact hr), fun r hr => treeRules_ok _ 0 F.dst.ok r (by rw [← F.dst.rulesEq]; exact hr)⟩
theorem FoldAs.claims (F : FoldAs s t l m rules qs st T) (k : Int) (media : List B) : rcl m k media qs = rcl l k media (keepP (goes st) 0 rules) := by
  rw [rcl_rel F.rel F.rules_ok.2, ← rcl_strip, F.kept, keepP_map, rcl_strip]
theorem fold_declared (F : FoldAs s t l m rules qs st T) (S : IsStays l rules st) (k : Int) (media : List B) : cDeclared m k qs media = cDeclared l k rules media := by
  cases hr : inR l k with
  | false =>
    unfold cDeclared
    rw [rel_inR F.rel, hr]
    rfl
  | true =>
    obtain ⟨j, rfl⟩ : ∃ j : Nat, k = (j : Int) := ⟨k.toNat, by simp [inR] at hr; omega⟩
    have hj : j < l.length := by simp [inR] at hr; omega
    have hn := List.getElem?_eq_getElem hj
    generalize l[j] = n at hn
    obtain ⟨n', hn', hnr⟩ := F.rel.get hn
    rw [declared_eq hn (fun r hr => plain_none F.src.plain r hr) F.src.own, declared_eq hn' (fun r hr => plain_none F.dst.plain r hr) F.dst.own, (F.look_own hn hn').1, F.claims]
    congr 1
    refine look_ext fun x => ?_
    rw [winner_app, winner_app, winner_ownLook, winner_app]
    by_cases hst : ∃ r ∈ keepP (goes st) 0 rules, (j, x) ∈ touches l r
    · obtain ⟨r, hrm, hrt⟩ := hst
      have hgone : ∀ q ∈ goneR rules st, (j, x) ∉ touches l q := fun q hq ht => apart S hrm hq hrt ht
      rw [rcl_none hj hgone]
      rw [rcl_keep (media := media) (n := x) hj (goes st) rules 0 fun i q hq hg => hgone q (by rw [gone_keep S.len]; exact (mem_keepP_iff _).2 ⟨i, hq, by rw [hg]; rfl⟩)]
      have hc : comb none (winner (ownClaims (ownOf n)) x) = winner (ownClaims (ownOf n)) x := by cases winner (ownClaims (ownOf n)) x <;> rfl
      rw [hc]
      cases hw : winner (ownClaims (ownOf n)) x with
      | none => rfl
      | some c => rw [Option.map_some, ← (winner_own hw).1]
    · have hst' : ∀ r ∈ keepP (goes st) 0 rules, (j, x) ∉ touches l r := fun r hr ht => hst ⟨r, hr, ht⟩
      rw [rcl_none hj hst']
      rw [rcl_keep (media := media) (n := x) hj (fun i => !goes st i) rules 0 fun i q hq hg => hst' q ((mem_keepP_iff _).2 ⟨i, hq, by simpa using hg⟩)]
      rw [← gone_keep S.len, rcl_media (media := media) (media' := []) fun q hq => gone_media S hq]
      have hc : ∀ a : Option PClaim, comb none a = a := by intro a; cases a <;> rfl
      rw [hc, Option.map_map]
      rfl
theorem fold_value (F : FoldAs s t l m rules qs st T) (S : IsStays l rules st) (k : Int) (media : List B) (name : B) : cValue m k qs media name = cValue l k rules media name := by
  unfold cValue
  have : ∀ (f : Nat) (k : Int), cValueF f m k qs media name = cValueF f l k rules media name := by
    intro f
    induction f with
    | zero => intro k; rfl
    | succ f ih =>
      intro k
      simp only [cValueF, fold_declared F S, rel_parent F.rel, ih]
  exact this _ k
theorem fold_alone (F : FoldAs s t l m rules qs st T) (S : IsStays l rules st) {k : Nat} {n n' : PNode} (hn : l[k]? = some n) (hn' : m[k]? = some n') {look : List PDecl} (hd : cDeclared l (k : Int) rules [] = .ok look) {d : PDecl} (hm : d ∈ look)
    (hf : ∀ r ∈ qs, (k, d.name) ∉ touches m r) : ∃ own, cDeclared m (k : Int) [] [] = .ok own ∧ d ∈ own := by
  have hk : k < l.length := (List.getElem?_eq_some_iff.1 hn).1
  have hk' : k < m.length := (List.getElem?_eq_some_iff.1 hn').1
  rw [declared_eq hn (fun r hr => plain_none F.src.plain r hr) F.src.own] at hd
  cases hd
  refine ⟨_, declared_eq hn' (by simp) F.dst.own, ?_⟩
  rw [(F.look_own hn hn').1]
  show d ∈ cLook (ownClaims (cLook _))
  rw [look_ownLook, look_mem]
  obtain ⟨c, hc, hcd⟩ := look_mem.1 hm
  refine ⟨c, ?_, hcd⟩
  rw [winner_app] at hc ⊢
  have hst' : ∀ r ∈ keepP (goes st) 0 rules, (k, d.name) ∉ touches l r := by
    intro r hr ht
    have : stripR r ∈ qs.map stripR := by rw [F.kept, keepP_map]; exact List.mem_map.2 ⟨r, hr, rfl⟩
    obtain ⟨q, hq, he⟩ := List.mem_map.1 this
    refine hf q hq ?_
    rw [mem_touches] at ht ⊢
    have e1 : (stripR q).sels = (stripR r).sels := by rw [he]
    have e2 : plainOf (stripR q) = plainOf (stripR r) := by rw [he]
    change q.sels = r.sels at e1
    change plainOf q = plainOf r at e2
    rw [rel_best F.rel (F.rules_ok.2 q hq).sels, e1, e2]
    exact ⟨hk', ht.2⟩
  rw [rcl_keep (media := []) (n := d.name) hk (fun i => !goes st i) rules 0 fun i q hq hg => hst' q ((mem_keepP_iff _).2 ⟨i, hq, by simpa using hg⟩), ← gone_keep S.len] at hc
  exact hc
theorem rel_touches {tx : Nat → B} (h : RelL tx 0 l m) {r q : PRule} (hq : RuleOk q) (he : stripR q = stripR r) (p : Nat × B) : p ∈ touches m q ↔ p ∈ touches l r := by
  obtain ⟨k, n⟩ := p
  have e1 : (stripR q).sels = (stripR r).sels := by rw [he]
  have e2 : plainOf (stripR q) = plainOf (stripR r) := by rw [he]
  change q.sels = r.sels at e1
  change plainOf q = plainOf r at e2
  rw [mem_touches, mem_touches, ← h.len, rel_best h hq.sels, e1, e2]
theorem stay_again (F : FoldAs s t l m rules qs st T) (S : IsStays l rules st) {i : Nat} (h : Stay l rules i) : ∀ r, rules[i]? = some r → ∀ j q, qs[j]? = some q → stripR q = stripR r → Stay m qs j := by
  induction h with
  | media hi hm =>
    intro r hr j q hq he
    rw [hi] at hr
    cases hr
    have e1 := congrArg PRule.media he
    change q.media = _ at e1
    exact .media hq (by rw [e1]; exact hm)
  | @meet i i' r0 q0 p hi hj hs h1 h2 ih =>
    intro r hr j q hq he
    rw [hi] at hr
    cases hr
    have hmem : stripR q0 ∈ qs.map stripR := by
      rw [F.kept, keepP_map]
      refine List.mem_map.2 ⟨q0, (mem_keepP_iff _).2 ⟨i', hj, ?_⟩, rfl⟩
      rw [Nat.zero_add]
      exact (goes_iff S (List.getElem?_eq_some_iff.1 hj).1).2 hs
    obtain ⟨q', hq', he'⟩ := List.mem_map.1 hmem
    obtain ⟨j', hj'⟩ := List.getElem?_of_mem hq'
    have hst := ih q0 hj j' q' hj' he'
    exact .meet hq hj' hst ((rel_touches F.rel (F.rules_ok.2 q (List.mem_of_getElem? hq)) he p).2 h1) ((rel_touches F.rel (F.rules_ok.2 q' hq') he' p).2 h2)
theorem all_stay (F : FoldAs s t l m rules qs st T) (S : IsStays l rules st) {j : Nat} (hj : j < qs.length) : Stay m qs j := by
  have hq := List.getElem?_eq_getElem hj
  have hmem : stripR (qs[j]) ∈ keepP (goes st) 0 (rules.map stripR) := by rw [← F.kept]; exact List.mem_map.2 ⟨_, List.getElem_mem hj, rfl⟩
  obtain ⟨i, hi, hg⟩ := (mem_keepP_iff _).1 hmem
  rw [Nat.zero_add] at hg
  rw [List.getElem?_map, Option.map_eq_some_iff] at hi
  obtain ⟨r, hr, he⟩ := hi
  exact stay_again F S ((goes_iff S (List.getElem?_eq_some_iff.1 hr).1).1 hg) r hr j _ hq he.symm
theorem stay_media {i : Nat} (h : Stay l rules i) : ∃ r ∈ rules, r.media ≠ [] := by
  induction h with
  | media hi hm => exact ⟨_, List.mem_of_getElem? hi, hm⟩
  | meet _ _ _ _ _ ih => exact ih
theorem gone_nil : ∀ {rs : List PRule} {bs : List Bool}, (∀ b ∈ bs, b = true) → goneR rs bs = []
  | [], _, _ => by simp [goneR]
  | r :: rs, [], _ => rfl
  | r :: rs, b :: bs, h => by
    simp only [goneR]
    rw [if_pos (h b (by simp))]
    exact gone_nil fun x hx => h x (by simp [hx])
theorem ownsEd_none {l : List PNode} {gone : List PRule} : ∀ {ns : List PNode} {k : Nat}, (∀ j n, ns[j]? = some n → (styleText l (k + j) gone).2 = true ∧ ((pGet n.attrs styleName).1 = (styleText l (k + j) gone).1)) → ownsEd l gone k ns = .ok []
  | [], _, _ => rfl
  | n :: ns, k, h => by
    obtain ⟨h1, h2⟩ := h 0 n rfl
    rw [Nat.add_zero] at h1 h2
    have hval : (pGet n.attrs styleName).2 = false → (pGet n.attrs styleName).1 = [] := by
      unfold pGet
      cases n.attrs.find? (fun a => a.name == styleName) with
      | none => intro _; rfl
      | some a => intro h; cases h
    have ih := ownsEd_none (l := l) (gone := gone) (ns := ns) (k := k + 1) fun j m hm => by
      have := h (j + 1) m (by simpa using hm)
      rwa [show k + (j + 1) = k + 1 + j from by omega] at this
    simp only [ownsEd]
    rw [if_neg, ih]
    · have : fOwn n (styleText l k gone).1 = none := by
        unfold fOwn
        rw [if_pos]
        cases hb : (pGet n.attrs styleName).2 with
        | true => exact .inl ⟨rfl, h2⟩
        | false => exact .inr ⟨rfl, by rw [← h2]; exact hval hb⟩
      rw [this]; rfl
    · rintro (hx | ⟨hx, _, hy⟩)
      · rw [h1] at hx; cases hx
      · exact hy (by rw [← h2]; exact hval hx)
theorem fold_still {s : B} {l : List PNode} {rules : List PRule} {st : List Bool} {T : PT} (h : ReadAs s l rules T) (hst : ∀ b ∈ st, b = true) (ho : ∀ (j : Nat) (n : PNode), l[j]? = some n → (cLook (ownClaims (ownOf n))).length ≤ 20 ∧ (pGet n.attrs styleName).1 = sPrint (cLook (ownClaims (ownOf n)))) : fFold s l rules st = .ok s := by
  unfold fFold
  rw [gone_nil hst]
  have : ownsEd l [] 0 l = .ok [] := ownsEd_none fun j n hn => by
    obtain ⟨h1, h2⟩ := ho j n hn
    have hx := style_as h (gone := []) (by simp) hn
    rw [Nat.zero_add, hx.fits, hx.text]
    exact ⟨by simpa [rcl] using h1, by simpa [rcl] using h2⟩
  rw [this]
  simp only [Ans.ok_then, List.map_nil, List.append_nil, sortEd, editsF, List.drop_zero]
  rw [if_neg (by have := h.len; omega)]
theorem fold_twice (F : FoldAs s t l m rules qs st T) (S : IsStays l rules st) {st' : List Bool} (S' : IsStays m qs st') : fFold t m qs st' = .ok t := by
  refine fold_still F.dst (fun b hb => ?_) fun j n' hn' => ?_
  · obtain ⟨j, hj⟩ := List.getElem?_of_mem hb
    exact (S'.iff j b hj).2 (all_stay F S (by rw [← S'.len]; exact (List.getElem?_eq_some_iff.1 hj).1))
  · have hj : j < l.length := by rw [F.rel.len]; exact (List.getElem?_eq_some_iff.1 hn').1
    have hn := List.getElem?_eq_getElem hj
    obtain ⟨h1, h2⟩ := F.look_own hn hn'
    rw [h1, look_ownLook]
    exact ⟨(F.style j _ hn).2, h2⟩
def noStyle (al : List (B × B)) : List (B × B) := al.filter fun a => !(a.1 == styleName)
theorem set_noStyle (al : List (B × B)) (t : B) : noStyle (setStyle al t) = noStyle al := by
  unfold noStyle setStyle
  split
  · split
    · rw [List.filter_filter]
      apply List.filter_congr
      intro a _
      cases a.1 == styleName <;> simp
    · induction al with
      | nil => rfl
      | cons a al ih =>
        have ih : ∀ al : List (B × B), (al.map fun a => if a.1 = styleName then (a.1, t) else a).filter (fun a => !(a.1 == styleName)) = al.filter fun a => !(a.1 == styleName) := by
          intro al
          induction al with
          | nil => rfl
          | cons a al ih =>
            simp only [List.map_cons, List.filter_cons, ih]
            by_cases ha : a.1 = styleName
            · simp [ha]
            · simp [ha]
        exact ih _
  · split
    · rfl
    · simp [List.filter_cons]
theorem fold_keeps (F : FoldAs s t l m rules qs st T) {k : Nat} {n n' : PNode} (hn : l[k]? = some n) (hn' : m[k]? = some n') : n'.name = n.name ∧ n'.parent = n.parent ∧ noStyle (n'.attrs.map pr) = noStyle (n.attrs.map pr) := by
  obtain ⟨m', hm', hr⟩ := F.rel.get hn
  rw [hn'] at hm'
  cases hm'
  exact ⟨hr.name, hr.parent, by rw [hr.attrs, set_noStyle]⟩
theorem fold_nothing {s : B} {l : List PNode} {rules : List PRule} {st : List Bool} {T : PT} (h : ReadAs s l rules T) (S : IsStays l rules st) (hm : ∀ r ∈ rules, r.media ≠ []) (ha : ∀ n ∈ l, ∀ a ∈ n.attrs, a.name ≠ styleName) : fFold s l rules st = .ok s := by
  refine fold_still h (fun b hb => ?_) fun j n hn => ?_
  · obtain ⟨i, hi⟩ := List.getElem?_of_mem hb
    have hil : i < rules.length := by rw [← S.len]; exact (List.getElem?_eq_some_iff.1 hi).1
    exact (S.iff i b hi).2 (.media (List.getElem?_eq_getElem hil) (hm _ (List.getElem_mem hil)))
  · have hno : pGet n.attrs styleName = ([], false) := by
      unfold pGet
      have : n.attrs.find? (fun a => a.name == styleName) = none := by
        rw [List.find?_eq_none]
        intro a hm
        simpa using ha n (List.mem_of_getElem? hn) a hm
      rw [this]
    have : ownOf n = [] := by unfold ownOf ownDecls; rw [hno]; rfl
    rw [this, hno]
    exact ⟨by decide, rfl⟩
theorem fold_left (F : FoldAs s t l m rules qs st T) : qs.length = (keepP (goes st) 0 rules).length ∧ qs.map stripR = (keepP (goes st) 0 rules).map stripR := by
  have := F.kept
  rw [keepP_map] at this
  refine ⟨?_, this⟩
  have := congrArg List.length this
  simpa using this
end
end Go.Proofs.YtplbdlgmjehckacGreatDoor

namespace Go.Proofs.YtplbdlgmjehckacGreatDoor
set_option linter.unusedVariables false
set_option linter.unusedSimpArgs false
structure TopW (w : B) : Prop where
  word : WordOk w
  len : w.length ≤ 20
theorem TopW.val {w : B} (h : TopW w) : ValOk w := word_valOk h.word (by have := h.len; omega)
def declStop (m : B) : Prop := m = [] ∨ (∃ t, m = 59 :: t) ∨ ∃ t, m = 125 :: t
structure DeclT (t : B) (d : PDecl) : Prop where
  read : ∀ m, declStop m → ∀ b, sDecl (t ++ m) b = .ok (d, m, b + t.length)
  head : ∃ c u, t = c :: u ∧ isLow c = true
def declText (nm w : B) : B := nm ++ ([58] ++ w)
def bang : B := [33] ++ importantWord
structure SelT (t : B) (ss : List PSel) : Prop where
  read : ∀ (m : B) (b : Nat), sSelsL ((t ++ (123 :: m)).length + 1) [] (t ++ (123 :: m)) b = .ok (ss, 123 :: m, b + t.length)
  head : ∃ c u, t = c :: u ∧ headCh c = true
def ruleText (s d : B) : B := s ++ ([123] ++ (d ++ [125]))
def tyP (c : UInt8) : PSel := [⟨0, [⟨1, [c], []⟩]⟩]
def wideW : B := [119, 105, 100, 101]
def wideHead : B := [32, 119, 105, 100, 101, 123]
end Go.Proofs.YtplbdlgmjehckacGreatDoor

namespace Go.Proofs.YtplbdlgmjehckacGreatDoor
set_option linter.unusedVariables false
set_option linter.unusedSimpArgs false
def rul (s : B) (ss : List PSel) (t : B) (d : PDecl) : In1 := .rule (ruleText s t) ss [d]
def declTextB (nm w : B) : B := nm ++ [58, 32] ++ w ++ []
def selQ : PSel := [⟨0, [⟨3, [113], []⟩]⟩]
def selK : PSel := [⟨0, [⟨2, [107], []⟩]⟩]
def rid (a : B) : In1 := rul [35, 113] [selQ] (declText colorName a) ⟨colorName, a, false⟩
def rcls (a : B) : In1 := rul [46, 107] [selK] (declText colorName a) ⟨colorName, a, false⟩
def rtyp (a : B) : In1 := rul [112] [tyP 112] (declText colorName a) ⟨colorName, a, false⟩
theorem stays_none {l : List PNode} {rules : List PRule} {st : List Bool} (S : IsStays l rules st) (h : ∀ r ∈ rules, r.media = []) : st = List.replicate rules.length false ∧ goneR rules st = rules := by
  have h1 : st = List.replicate rules.length false := by
    rw [List.eq_replicate_iff]
    refine ⟨S.len, fun b hb => ?_⟩
    obtain ⟨j, hj⟩ := List.getElem?_of_mem hb
    cases b with
    | false => rfl
    | true =>
      obtain ⟨r, hr, hm⟩ := stay_media ((S.iff j true hj).1 rfl)
      exact absurd (h r hr) hm
  refine ⟨h1, ?_⟩
  subst h1
  have : ∀ rs : List PRule, goneR rs (List.replicate rs.length false) = rs := by
    intro rs
    induction rs with
    | nil => rfl
    | cons r rs ih => simp only [List.length_cons, List.replicate_succ, goneR, Bool.false_eq_true, if_false, ih]
  exact this rules
structure TopAs (T : PT) (rs0 : List PRule) : Prop where
  wf : wfP 1 T
  ok : okP T
  len : (textP T).length ≤ 1000
  few : sizeP T ≤ 8
  rules : (treeRules 0 T).map stripR = rs0
  most : rs0.length ≤ 8
  plain : ∀ r ∈ rs0, pAll r.decls ≠ none
  own : nodesBad (nodesP (-1) 0 0 T) = none
theorem TopAs.read {T : PT} {rs0 : List PRule} (h : TopAs T rs0) : ReadAs (textP T) (nodesP (-1) 0 0 T) (treeRules 0 T) T := by
  have hm := h.most
  rw [← h.rules, List.length_map] at hm
  refine ⟨by have := h.len; omega, h.wf, h.ok, by have := h.few; omega, rfl, rfl, rfl, by omega, ?_, h.own⟩
  refine none_plain fun r hr => ?_
  have := h.plain (stripR r) (by rw [← h.rules]; exact List.mem_map.2 ⟨r, hr, rfl⟩)
  exact this
def weightT (xs : List In1) : PT := .style [] (textIn xs) (.elem [112] [(className, [107]), (idName, [113])] (.text 120 .nil) (.elem [112] [(className, [107])] (.text 121 .nil) (.elem [112] [] (.text 122 .nil) .nil)))
def sr (ss : List PSel) (d : PDecl) : PRule := ⟨[], ss, [d], 0, 0⟩
def wOrder {α : Type} (x y z : α) : Nat → List α
  | 0 => [x, y, z]
  | 1 => [x, z, y]
  | 2 => [y, x, z]
  | 3 => [y, z, x]
  | 4 => [z, x, y]
  | _ => [z, y, x]
def wXs (a b c : B) (o : Nat) : List In1 := wOrder (rid a) (rcls b) (rtyp c) o
def wRs (a b c : B) (o : Nat) : List PRule := wOrder (sr [selQ] ⟨colorName, a, false⟩) (sr [selK] ⟨colorName, b, false⟩) (sr [tyP 112] ⟨colorName, c, false⟩) o
end Go.Proofs.YtplbdlgmjehckacGreatDoor

namespace Go.Proofs.YtplbdlgmjehckacGreatDoor
set_option linter.unusedVariables false
set_option linter.unusedSimpArgs false
def alive6In : B := [60, 115, 116, 121, 108, 101, 62, 112, 123, 99, 111, 108, 111, 114, 58, 114, 101, 100, 125, 60, 47, 115, 116, 121, 108, 101, 62, 60, 112, 62, 120, 60, 47, 112, 62]
def alive6Out : B := [60, 115, 116, 121, 108, 101, 62, 32, 60, 47, 115, 116, 121, 108, 101, 62, 60, 112, 32, 115, 116, 121, 108, 101, 61, 34, 99, 111, 108, 111, 114, 58, 32, 114, 101, 100, 34, 62, 120, 60, 47, 112, 62]
def aliveTIn : B := [60, 115, 116, 121, 108, 101, 62, 112, 123, 99, 111, 108, 111, 114, 58, 114, 101, 100, 125, 32, 64, 109, 101, 100, 105, 97, 32, 119, 105, 100, 101, 123, 112, 123, 115, 105, 122, 101, 58, 49, 50, 125, 125, 32, 98, 123, 115, 105, 122, 101, 58, 57, 125, 60, 47, 115, 116, 121, 108, 101, 62, 60, 112, 62, 60, 98, 62, 120, 60, 47, 98, 62, 60, 47, 112, 62]
def aliveTOut : B := [60, 115, 116, 121, 108, 101, 62, 32, 32, 64, 109, 101, 100, 105, 97, 32, 119, 105, 100, 101, 123, 112, 123, 115, 105, 122, 101, 58, 49, 50, 125, 125, 32, 32, 60, 47, 115, 116, 121, 108, 101, 62, 60, 112, 32, 115, 116, 121, 108, 101, 61, 34, 99, 111, 108, 111, 114, 58, 32, 114, 101, 100, 34, 62, 60, 98, 32, 115, 116, 121, 108, 101, 61, 34, 115, 105, 122, 101, 58, 32, 57, 34, 62, 120, 60, 47, 98, 62, 60, 47, 112, 62]
def okOf {α : Type} (d : α) : Ans α → α
  | .ok a => a
  | .bad _ => d
def isOk {α : Type} : Ans α → Bool
  | .ok _ => true
  | .bad _ => false
theorem okOf_eq {α : Type} {d : α} {a : Ans α} (h : isOk a = true) : a = .ok (okOf d a) := by
  cases a with
  | ok a => rfl
  | bad f => cases h
def alive6L : List PNode × List PRule := okOf ([], []) (fRead alive6In)
def aliveTL : List PNode × List PRule := okOf ([], []) (fRead aliveTIn)
theorem alive6_read : fRead alive6In = .ok alive6L := okOf_eq (by decide +kernel)
theorem alive6_media : ∀ r ∈ alive6L.2, r.media = [] := by decide +kernel
theorem alive6_len : alive6L.2.length = 1 := by decide +kernel
theorem alive6_fold : fFold alive6In alive6L.1 alive6L.2 [false] = .ok alive6Out := by decide +kernel
theorem alive6 {st : List Bool} (S : IsStays alive6L.1 alive6L.2 st) : fFold alive6In alive6L.1 alive6L.2 st = .ok alive6Out := by
  have := (stays_none S alive6_media).1
  rw [alive6_len] at this
  rw [this]
  exact alive6_fold
end Go.Proofs.YtplbdlgmjehckacGreatDoor

namespace Go.Proofs.YtplbdlgmjehckacGreatDoor
set_option linter.unusedVariables false
set_option linter.unusedSimpArgs false
def tru (st : List Bool) (i : Nat) : Nat := (st.take i).count true
theorem tru_zero (st : List Bool) : tru st 0 = 0 := rfl
theorem tru_succ {st : List Bool} {i : Nat} {b : Bool} (h : st[i]? = some b) : tru st (i + 1) = tru st i + (if b = true then 1 else 0) := by
  unfold tru
  rw [List.take_add_one, h, List.count_append]
  cases b <;> simp
theorem tru_le (st : List Bool) (i : Nat) : tru st i ≤ i := by
  unfold tru
  have := List.count_le_length (a := true) (l := st.take i)
  have := List.length_take_le i st
  omega
def pick {α : Type} : List α → List Bool → List α
  | r :: rs, b :: bs => if b = true then r :: pick rs bs else pick rs bs
  | _, _ => []
theorem keep_from {α : Type} : ∀ (rules : List α) (pre st : List Bool), st.length = rules.length → keepP (goes (pre ++ st)) pre.length rules = pick rules st
  | [], _, _, _ => by simp [keepP, pick]
  | r :: rs, pre, [], h => by simp at h
  | r :: rs, pre, b :: bs, h => by
    have ih := keep_from rs (pre ++ [b]) bs (by simpa using h)
    simp only [List.append_assoc, List.length_append, List.length_cons, List.length_nil, List.cons_append, List.nil_append] at ih
    simp only [keepP, pick]
    have hg : goes (pre ++ b :: bs) pre.length = !b := by
      unfold goes
      rw [List.getElem?_append_right (Nat.le_refl _), Nat.sub_self]
      cases b <;> simp
    rw [hg, ih]
    cases b <;> simp
theorem keep_pick {α : Type} {rules : List α} {st : List Bool} (h : st.length = rules.length) : keepP (goes st) 0 rules = pick rules st := keep_from rules [] st h
theorem pick_get {α : Type} : ∀ (rs : List α) (st : List Bool) (i : Nat) (r : α), st.length = rs.length → rs[i]? = some r → st[i]? = some true → (pick rs st)[tru st i]? = some r
  | [], _, _, _, _, h, _ => by simp at h
  | x :: xs, [], _, _, h, _, _ => by simp at h
  | x :: xs, b :: bs, 0, r, hl, h, hs => by
    simp at h hs
    subst h; subst hs
    simp [pick, tru]
  | x :: xs, b :: bs, i + 1, r, hl, h, hs => by
    have ih := pick_get xs bs i r (by simpa using hl) (by simpa using h) (by simpa using hs)
    have ht : tru (b :: bs) (i + 1) = tru bs i + (if b = true then 1 else 0) := by
      unfold tru
      rw [List.take_succ_cons, List.count_cons]
      cases b <;> simp
    rw [ht]
    simp only [pick]
    cases b <;> simp [ih]
theorem pick_len {α : Type} : ∀ (rs : List α) (st : List Bool), st.length = rs.length → (pick rs st).length = tru st st.length
  | [], [], _ => rfl
  | [], b :: bs, h => by simp at h
  | x :: xs, [], h => by simp at h
  | x :: xs, b :: bs, h => by
    have ih := pick_len xs bs (by simpa using h)
    have ht : tru (b :: bs) (bs.length + 1) = tru bs bs.length + (if b = true then 1 else 0) := by
      unfold tru
      rw [List.take_succ_cons, List.count_cons]
      cases b <;> simp
    rw [List.length_cons, ht]
    simp only [pick]
    cases b <;> simp [ih]
section
variable {s t : B} {l m : List PNode} {rules qs : List PRule} {st : List Bool} {T : PT}
theorem FoldAs.left (F : FoldAs s t l m rules qs st T) {i : Nat} {r : PRule} (hr : rules[i]? = some r) (hs : st[i]? = some true) : ∃ q, qs[tru st i]? = some q ∧ { q with lo := r.lo, hi := r.hi } = r := by
  have h1 := F.kept
  rw [keep_pick (by rw [F.len, List.length_map])] at h1
  have h2 := pick_get (rules.map stripR) st i (stripR r) (by rw [F.len, List.length_map]) (by rw [List.getElem?_map, hr]; rfl) hs
  rw [← h1, List.getElem?_map, Option.map_eq_some_iff] at h2
  obtain ⟨q, hq, he⟩ := h2
  refine ⟨q, hq, ?_⟩
  cases q; cases r
  simp only [stripR, PRule.mk.injEq] at he ⊢
  obtain ⟨h1, h2, h3, _⟩ := he
  exact ⟨h1, h2, h3, trivial, trivial⟩
theorem FoldAs.left_len (F : FoldAs s t l m rules qs st T) : qs.length = tru st rules.length := by
  have h1 := congrArg List.length F.kept
  rw [keep_pick (by rw [F.len, List.length_map]), pick_len _ _ (by rw [F.len, List.length_map]), List.length_map, F.len] at h1
  exact h1
theorem tru_some (S : IsStays l rules st) (h : tru st rules.length ≠ 0) : ∃ r ∈ rules, r.media ≠ [] := by
  have hm : true ∈ st := by
    unfold tru at h
    have := List.count_pos_iff.1 (Nat.pos_of_ne_zero h)
    exact List.mem_of_mem_take this
  obtain ⟨j, hj⟩ := List.getElem?_of_mem hm
  exact stay_media ((S.iff j true hj).1 rfl)
def someM (rules : List PRule) (i : Nat) : Bool := (rules.take i).any fun r => !r.media.isEmpty
theorem someM_succ {rules : List PRule} {i : Nat} {r : PRule} (h : rules[i]? = some r) : someM rules (i + 1) = (someM rules i || !r.media.isEmpty) := by
  unfold someM
  rw [List.take_add_one, h, List.any_append]
  simp
theorem someM_end (S : IsStays l rules st) (h : someM rules rules.length = false) : tru st rules.length = 0 := by
  refine Classical.byContradiction fun hn => ?_
  obtain ⟨r, hr, hm⟩ := tru_some S hn
  unfold someM at h
  rw [List.take_length, List.any_eq_false] at h
  have := h r hr
  cases hx : r.media with
  | nil => exact hm hx
  | cons a b => rw [hx] at this; simp at this
def bareOf (a : PAttr) : PAttr := ⟨a.name, a.val, 0, 0⟩
def bare (al : List PAttr) : List PAttr := (al.filter fun a => !(a.name == styleName)).map bareOf
theorem bare_zero (al : List PAttr) : bare (al.take 0) = [] := rfl
theorem bare_succ {al : List PAttr} {i : Nat} {a : PAttr} (h : al[i]? = some a) : bare (al.take (i + 1)) = bare (al.take i) ++ (if (a.name == styleName) = true then [] else [bareOf a]) := by
  unfold bare
  rw [List.take_add_one, h, List.filter_append, List.map_append]
  cases hb : a.name == styleName <;> simp [List.filter_cons, hb]
theorem bare_len (al : List PAttr) (i : Nat) : (bare (al.take i)).length ≤ i := by
  unfold bare
  rw [List.length_map]
  have := List.length_filter_le (fun a : PAttr => !(a.name == styleName)) (al.take i)
  have := List.length_take_le i al
  omega
theorem bare_noStyle (al : List PAttr) : bare al = (noStyle (al.map pr)).map fun p => ⟨p.1, p.2, 0, 0⟩ := by
  unfold bare noStyle
  rw [List.filter_map, List.map_map]
  rfl
theorem fold_bare (F : FoldAs s t l m rules qs st T) {k : Nat} {n n' : PNode} (hn : l[k]? = some n) (hn' : m[k]? = some n') : n'.name = n.name ∧ n'.parent = n.parent ∧ bare n'.attrs = bare n.attrs := by
  obtain ⟨h1, h2, h3⟩ := fold_keeps F hn hn'
  exact ⟨h1, h2, by rw [bare_noStyle, bare_noStyle, h3]⟩
def stillR (rules : List PRule) (i : Nat) : Bool := (rules.take i).all fun r => !r.media.isEmpty
theorem stillR_succ {rules : List PRule} {i : Nat} {r : PRule} (h : rules[i]? = some r) : stillR rules (i + 1) = (stillR rules i && !r.media.isEmpty) := by
  unfold stillR
  rw [List.take_add_one, h, List.all_append]
  simp
def stillA (al : List PAttr) (i : Nat) : Bool := (al.take i).all fun a => !(a.name == styleName)
theorem stillA_succ {al : List PAttr} {i : Nat} {a : PAttr} (h : al[i]? = some a) : stillA al (i + 1) = (stillA al i && !(a.name == styleName)) := by
  unfold stillA
  rw [List.take_add_one, h, List.all_append]
  simp
def stillN (l : List PNode) (i : Nat) : Bool := (l.take i).all fun n => stillA n.attrs n.attrs.length
theorem stillN_succ {l : List PNode} {i : Nat} {n : PNode} (h : l[i]? = some n) : stillN l (i + 1) = (stillN l i && stillA n.attrs n.attrs.length) := by
  unfold stillN
  rw [List.take_add_one, h, List.all_append]
  simp
theorem still_end (R : ReadAs s l rules T) (S : IsStays l rules st) (hf : fFold s l rules st = .ok t) (h1 : stillR rules rules.length = true) (h2 : stillN l l.length = true) : s = t := by
  unfold stillR at h1
  unfold stillN at h2
  rw [List.take_length, List.all_eq_true] at h1 h2
  have h3 := fold_nothing R S (fun r hr => by
    have := h1 r hr
    intro hx
    rw [hx] at this
    cases this) (fun n hn a ha => by
    have := h2 n hn
    unfold stillA at this
    rw [List.take_length, List.all_eq_true] at this
    simpa using this a ha)
  rw [h3] at hf
  cases hf
  rfl
theorem plain_of_bad {rules : List PRule} (h : rulesBad rules = none) : ∀ r ∈ rules, pAll r.decls = some (plainOf r) := fun r hr => plain_none h r hr
theorem ReadAs.declared (R : ReadAs s l rules T) (media : List B) {k : Nat} (hk : k < l.length) : ∃ look, cDeclared l (k : Int) rules media = .ok look :=
  ⟨_, declared_eq (List.getElem?_eq_getElem hk) (fun r hr => plain_none R.plain r hr) R.own⟩
theorem ReadAs.bare (R : ReadAs s l rules T) (media : List B) {k : Nat} (hk : k < l.length) : ∃ look, cDeclared l (k : Int) [] media = .ok look :=
  ⟨_, declared_eq (List.getElem?_eq_getElem hk) (fun r hr => by cases hr) R.own⟩
theorem value_okF {rs : List PRule} {media : List B} {name : B} (h : ∀ k : Nat, k < l.length → ∃ look, cDeclared l (k : Int) rs media = .ok look) : ∀ (f k : Nat), k < l.length → k < f → ∃ v, cValueF f l (k : Int) rs media name = .ok v
  | 0, k, _, hf => by omega
  | f + 1, k, hk, hf => by
    obtain ⟨look, hl⟩ := h k hk
    simp only [cValueF, hl, Ans.ok_then]
    cases lookFind look name with
    | some d => exact ⟨_, rfl⟩
    | none =>
      simp only
      split
      · rename_i hc
        simp only [Bool.and_eq_true, decide_eq_true_eq] at hc
        obtain ⟨⟨_, h0⟩, h1⟩ := hc
        obtain ⟨j, hj⟩ : ∃ j : Nat, parentOf l (k : Int).toNat = (j : Int) := ⟨(parentOf l (k : Int).toNat).toNat, by omega⟩
        rw [hj] at h1 ⊢
        exact value_okF h f j (by omega) (by omega)
      · exact ⟨_, rfl⟩
theorem ReadAs.value (R : ReadAs s l rules T) (media : List B) (name : B) {k : Nat} (hk : k < l.length) : ∃ v, cValue l (k : Int) rules media name = .ok v :=
  value_okF (fun k hk => R.declared media hk) _ k hk (by simp)
end
end Go.Proofs.YtplbdlgmjehckacGreatDoor

namespace Go.Proofs.YtplbdlgmjehckacGreatDoor
set_option linter.unusedVariables false
set_option linter.unusedSimpArgs false
def behindA : Nat → List PAttr → Nat
  | p, [] => p
  | _, a :: al => behindA a.hi.toNat al
def restTo (n : PNode) : Nat := if n.name = styleName then n.inT.toNat else behindA n.nameEnd.toNat n.attrs
def restF (s : B) : Nat → List PNode → B
  | a, [] => s.drop a
  | a, n :: ns => sub s a n.nameEnd.toNat ++ restF s (restTo n) ns
def runsA (s : B) : Nat → List PAttr → Prop
  | p, [] => s[p]? = some 62
  | p, a :: al => a.lo = (p : Int) ∧ s[p]? = some 32 ∧ (p : Int) < a.hi ∧ runsA s a.hi.toNat al
def restOk (s : B) : Nat → List PNode → Prop
  | a, [] => a ≤ s.length
  | a, n :: ns => (a : Int) ≤ n.nameEnd ∧ n.nameEnd.toNat ≤ s.length ∧ runsA s n.nameEnd.toNat n.attrs ∧ 0 ≤ n.inT ∧ restOk s (restTo n) ns
def restP : PT → B
  | .nil => []
  | .text c n => c :: restP n
  | .note x n => noteBegin ++ (x ++ (noteEnd ++ restP n))
  | .elem nm al kids n => [60] ++ (nm ++ ([62] ++ (restP kids ++ (closeText nm ++ restP n))))
  | .style al inner n => [60] ++ (styleName ++ (closeText styleName ++ restP n))
theorem restP_fold (tx : Nat → B) (g : Nat → Bool) : ∀ (T : PT) (c i : Nat), restP (foldP tx g c i T) = restP T
  | .nil, _, _ => rfl
  | .text _ n, _, _ => by simp only [foldP, restP, restP_fold tx g n]
  | .note _ n, _, _ => by simp only [foldP, restP, restP_fold tx g n]
  | .elem _ _ kids n, _, _ => by simp only [foldP, restP, restP_fold tx g n, restP_fold tx g kids]
  | .style _ _ n, _, _ => by simp only [foldP, restP, restP_fold tx g n]
theorem sub_at {s p w q : B} {a b : Nat} (hs : s = p ++ (w ++ q)) (ha : a = p.length) (hb : b = p.length + w.length) : sub s a b = w := by
  subst ha; subst hb; rw [hs]; exact sub_mid p w q
theorem restOk.early {s : B} {a b : Nat} {ns : List PNode} (h : restOk s b ns) (hab : a ≤ b) : restOk s a ns := by
  cases ns with
  | nil => exact Nat.le_trans hab h
  | cons n ns => obtain ⟨h1, h2⟩ := h; exact ⟨by omega, h2⟩
theorem restOk.from {s : B} {a b : Nat} {ns : List PNode} (h : restOk s b ns) (hab : a ≤ b) : restF s a ns = sub s a b ++ restF s b ns := by
  cases ns with
  | nil => simp only [restF]; exact (sub_to hab).symm
  | cons n ns =>
    obtain ⟨h1, h2, _⟩ := h
    simp only [restF]
    rw [← List.append_assoc, sub_append s hab (by omega)]
theorem behind_at : ∀ (al : List (B × B)) (p : Nat), behindA p (attrsAt p al) = p + (attrsText al).length
  | [], p => by simp [attrsAt, behindA, attrsText]
  | a :: al, p => by
    simp only [attrsAt, behindA, attrsText, List.length_append]
    rw [Int.toNat_natCast, behind_at al]; omega
theorem runs_at {s : B} : ∀ (al : List (B × B)) (p q : B), s = p ++ (attrsText al ++ (62 :: q)) → runsA s p.length (attrsAt p.length al)
  | [], p, q, h => by
    simp only [attrsAt, runsA, attrsText, List.nil_append] at h ⊢
    rw [h, List.getElem?_append_right (Nat.le_refl _)]; simp
  | a :: al, p, q, h => by
    have hl : p.length + (attrText a).length = (p ++ attrText a).length := by simp
    simp only [attrsAt, runsA]
    refine ⟨trivial, ?_, ?_, ?_⟩
    · rw [h, List.getElem?_append_right (Nat.le_refl _)]; simp [attrsText, attrText]
    · have := attrText_pos a; omega
    · rw [Int.toNat_natCast, hl]
      exact runs_at al (p ++ attrText a) q (by rw [h]; simp [attrsText])
theorem rest_tree {s : B} : ∀ (T : PT) (d c : Nat) (par : Int) (p q : B) (ms : List PNode), s = p ++ (textP T ++ q) → wfP d T → restOk s (p ++ textP T).length ms →
    restOk s p.length (nodesP par c p.length T ++ ms) ∧ restF s p.length (nodesP par c p.length T ++ ms) = restP T ++ restF s (p ++ textP T).length ms
  | .nil, d, c, par, p, q, ms, hs, hw, hm => by
    simp only [textP, List.append_nil] at hm ⊢
    simp only [nodesP, List.nil_append, restP]
    exact ⟨hm, trivial⟩
  | .text x n, d, c, par, p, q, ms, hs, hw, hm => by
    have hl : p.length + 1 = (p ++ [x]).length := by simp
    have he : (p ++ textP (.text x n)).length = ((p ++ [x]) ++ textP n).length := by simp [textP]
    rw [he] at hm ⊢
    obtain ⟨h1, h2⟩ := rest_tree n d c par (p ++ [x]) q ms (by rw [hs]; simp [textP]) hw.2.2 hm
    rw [nodesP, hl]
    refine ⟨h1.early (by simp), ?_⟩
    rw [h1.from (by simp), h2]
    have : sub s p.length (p ++ [x]).length = [x] := sub_at (p := p) (q := textP n ++ q) (by rw [hs]; simp [textP]) rfl (List.length_append ..)
    rw [this]; rfl
  | .note x n, d, c, par, p, q, ms, hs, hw, hm => by
    have hl : p.length + (4 + x.length + 3) = (p ++ (noteBegin ++ (x ++ noteEnd))).length := by simp [noteBegin, noteEnd]; omega
    have he : (p ++ textP (.note x n)).length = ((p ++ (noteBegin ++ (x ++ noteEnd))) ++ textP n).length := by simp [textP]
    rw [he] at hm ⊢
    obtain ⟨h1, h2⟩ := rest_tree n d c par (p ++ (noteBegin ++ (x ++ noteEnd))) q ms (by rw [hs]; simp [textP]) hw.2 hm
    rw [nodesP, hl]
    refine ⟨h1.early (by simp), ?_⟩
    rw [h1.from (by simp), h2]
    have : sub s p.length (p ++ (noteBegin ++ (x ++ noteEnd))).length = noteBegin ++ (x ++ noteEnd) := sub_at (p := p) (q := textP n ++ q) (by rw [hs]; simp [textP]) rfl (List.length_append ..)
    rw [this]; simp [restP]
  | .elem nm al kids n, d, c, par, p, q, ms, hs, hw, hm => by
    obtain ⟨_, _, hns, _, hk, hn⟩ := hw
    have l1 : p.length + (openText nm al).length = (p ++ openText nm al).length := by simp
    have l2 : p.length + (openText nm al).length + (textP kids).length + (closeText nm).length = (p ++ openText nm al ++ textP kids ++ closeText nm).length := by simp [Nat.add_assoc]
    have l0 : p.length + 1 + nm.length = (p ++ ([60] ++ nm)).length := by simp only [List.length_append, List.length_cons, List.length_nil]; omega
    have he : (p ++ textP (.elem nm al kids n)).length = ((p ++ openText nm al ++ textP kids ++ closeText nm) ++ textP n).length := by simp [textP]
    rw [he] at hm ⊢
    obtain ⟨n1, n2⟩ := rest_tree n d (c + 1 + sizeP kids) par (p ++ openText nm al ++ textP kids ++ closeText nm) q ms (by rw [hs]; simp [textP]) hn hm
    obtain ⟨k1, k2⟩ := rest_tree kids (d + 1) (c + 1) (c : Int) (p ++ openText nm al) (closeText nm ++ (textP n ++ q)) (nodesP par (c + 1 + sizeP kids) (p ++ openText nm al ++ textP kids ++ closeText nm).length n ++ ms) (by rw [hs]; simp [textP]) hk
      (n1.early (by simp))
    rw [nodesP, l2, l1, List.cons_append, List.append_assoc]
    have hb : restTo ⟨nm, par, attrsAt (p.length + 1 + nm.length) al, ((p.length + 1 + nm.length : Nat) : Int), 0, 0⟩ + 1 = (p ++ openText nm al).length := by
      unfold restTo
      simp only [hns, if_false, Int.toNat_natCast]
      rw [behind_at]; simp [openText]; omega
    have hr : runsA s (p.length + 1 + nm.length) (attrsAt (p.length + 1 + nm.length) al) := by
      rw [l0]
      exact runs_at al (p ++ ([60] ++ nm)) (textP kids ++ (closeText nm ++ (textP n ++ q))) (by rw [hs]; simp [textP, openText])
    have hle : p.length + 1 + nm.length ≤ s.length := by rw [hs]; simp [textP, openText]; omega
    refine ⟨⟨by simp only []; omega, hle, hr, Int.le_refl _, k1.early (by omega)⟩, ?_⟩
    simp only [restF]
    rw [k1.from (by omega : _ ≤ (p ++ openText nm al).length), k2, n1.from (show (p ++ openText nm al ++ textP kids).length ≤ _ by simp), n2]
    have e1 : sub s p.length (p.length + 1 + nm.length) = [60] ++ nm := sub_at (p := p) (q := attrsText al ++ (62 :: (textP kids ++ (closeText nm ++ (textP n ++ q))))) (by rw [hs]; simp [textP, openText]) rfl (by simp only [List.length_append, List.length_cons, List.length_nil]; omega)
    have hw3 : (p ++ openText nm al).length = (p ++ ([60] ++ (nm ++ attrsText al))).length + 1 := by simp only [openText, List.length_append, List.length_cons, List.length_nil]; omega
    have e2 : sub s (restTo ⟨nm, par, attrsAt (p.length + 1 + nm.length) al, ((p.length + 1 + nm.length : Nat) : Int), 0, 0⟩) (p ++ openText nm al).length = [62] :=
      sub_at (p := p ++ ([60] ++ (nm ++ attrsText al))) (q := textP kids ++ (closeText nm ++ (textP n ++ q))) (by rw [hs]; simp [textP, openText]) (by omega) (by rw [hw3, List.length_cons, List.length_nil])
    have e3 : sub s (p ++ openText nm al ++ textP kids).length (p ++ openText nm al ++ textP kids ++ closeText nm).length = closeText nm :=
      sub_at (p := p ++ openText nm al ++ textP kids) (q := textP n ++ q) (by rw [hs]; simp [textP]) rfl (List.length_append ..)
    simp only [Int.toNat_natCast]
    rw [e1, e2, e3]; simp [restP]
  | .style al inner n, d, c, par, p, q, ms, hs, hw, hm => by
    obtain ⟨_, _, _, hn⟩ := hw
    have l1 : p.length + (openText styleName al).length = (p ++ openText styleName al).length := by simp
    have l2 : p.length + (openText styleName al).length + inner.length + (closeText styleName).length = (p ++ openText styleName al ++ inner ++ closeText styleName).length := by simp [Nat.add_assoc]
    have l3 : p.length + (openText styleName al).length + inner.length = (p ++ openText styleName al ++ inner).length := by simp [Nat.add_assoc]
    have l0 : p.length + 1 + styleName.length = (p ++ ([60] ++ styleName)).length := by simp only [List.length_append, List.length_cons, List.length_nil]; omega
    have he : (p ++ textP (.style al inner n)).length = ((p ++ openText styleName al ++ inner ++ closeText styleName) ++ textP n).length := by simp [textP]
    rw [he] at hm ⊢
    obtain ⟨n1, n2⟩ := rest_tree n d (c + 1) par (p ++ openText styleName al ++ inner ++ closeText styleName) q ms (by rw [hs]; simp [textP]) hn hm
    rw [nodesP, l2, List.cons_append]
    have hr : runsA s (p.length + 1 + styleName.length) (attrsAt (p.length + 1 + styleName.length) al) := by
      rw [l0]
      exact runs_at al (p ++ ([60] ++ styleName)) (inner ++ (closeText styleName ++ (textP n ++ q))) (by rw [hs]; simp [textP, openText])
    have hle : p.length + 1 + styleName.length ≤ s.length := by rw [hs]; simp [textP, openText]; omega
    have hto : restTo ⟨styleName, par, attrsAt (p.length + 1 + styleName.length) al, ((p.length + 1 + styleName.length : Nat) : Int), ((p.length + (openText styleName al).length : Nat) : Int), ((p.length + (openText styleName al).length + inner.length : Nat) : Int)⟩ = (p ++ openText styleName al ++ inner).length := by
      unfold restTo
      rw [if_pos rfl, ← l3]; rfl
    refine ⟨⟨by simp only []; omega, hle, hr, Int.natCast_nonneg _, by rw [hto]; exact n1.early (by simp)⟩, ?_⟩
    simp only [restF]
    rw [hto, n1.from (show (p ++ openText styleName al ++ inner).length ≤ _ by simp), n2]
    have e1 : sub s p.length (p.length + 1 + styleName.length) = [60] ++ styleName := sub_at (p := p) (q := attrsText al ++ (62 :: (inner ++ (closeText styleName ++ (textP n ++ q))))) (by rw [hs]; simp [textP, openText]) rfl (by simp only [List.length_append, List.length_cons, List.length_nil]; omega)
    have e3 : sub s (p ++ openText styleName al ++ inner).length (p ++ openText styleName al ++ inner ++ closeText styleName).length = closeText styleName :=
      sub_at (p := p ++ openText styleName al ++ inner) (q := textP n ++ q) (by rw [hs]; simp [textP]) rfl (List.length_append ..)
    simp only [Int.toNat_natCast]
    rw [e1, e3]; simp [restP]
theorem rest_page {T : PT} (hw : wfP 1 T) : restOk (textP T) 0 (nodesP (-1) 0 0 T) ∧ restF (textP T) 0 (nodesP (-1) 0 0 T) = restP T := by
  obtain ⟨h1, h2⟩ := rest_tree (s := textP T) T 1 0 (-1) [] [] [] (by simp) hw (by simp [restOk])
  simp only [List.length_nil, List.append_nil, List.nil_append] at h1 h2
  refine ⟨h1, ?_⟩
  rw [h2]; simp [restF]
theorem fold_rest {s t : B} {l m : List PNode} {rules qs : List PRule} {st : List Bool} {T : PT} (F : FoldAs s t l m rules qs st T) : restOk s 0 l ∧ restOk t 0 m ∧ restF t 0 m = restF s 0 l := by
  have h1 := rest_page F.src.wf
  have h2 := rest_page F.dst.wf
  rw [← F.src.text, ← F.src.nodes] at h1
  rw [← F.dst.text, ← F.dst.nodes] at h2
  exact ⟨h1.1, h2.1, by rw [h1.2, h2.2, restP_fold]⟩
end Go.Proofs.YtplbdlgmjehckacGreatDoor

