/-
  Lemmas for the claims of this seat: the program's functions walked, and plain laws. In this order: FoFoldP FoRdSpec FoStay FoLaws TpTools.
-/
import Derived.Test.YtplbdlgmjehckacGreatDoorPk7
import Derived.Test.YtplbdlgmjehckacGreatDoorPk3
import Derived.Test.YtplbdlgmjehckacGreatDoorPk6
namespace Go.Proofs.YtplbdlgmjehckacGreatDoor
set_option linter.unusedVariables false
set_option linter.unusedSimpArgs false
theorem insName_len (n : B) : ∀ xs : List B, (insName n xs).length ≤ xs.length + 1
  | [] => by simp [insName]
  | x :: xs => by
    have := insName_len n xs
    simp only [insName]
    split
    · simp
    · split
      · simp; omega
      · simp
theorem cLook_len (cs : List PClaim) : (cLook cs).length ≤ cs.length := by
  have h1 : ∀ (cs : List PClaim) (acc : List B), (cs.foldl (fun acc c => insName c.d.name acc) acc).length ≤ acc.length + cs.length := by
    intro cs
    induction cs with
    | nil => intro acc; simp
    | cons c cs ih =>
      intro acc
      have := ih (insName c.d.name acc)
      have := insName_len c.d.name acc
      simp; omega
  unfold cLook
  have h2 := h1 cs []
  have h3 := List.length_filterMap_le (fun n => (winner cs n).map (·.d)) (namesOf cs)
  have h4 : (namesOf cs).length ≤ 0 + cs.length := h2
  omega
theorem expand_four {d : PDecl} {x : List PDecl} (h : pExpand d = some x) : x.length ≤ 4 := by
  unfold pExpand at h
  split at h
  · split at h
    all_goals first
      | (cases h; simp [edges])
      | cases h
  · cases h; simp
theorem all_four : ∀ {l x : List PDecl}, pAll l = some x → x.length ≤ 4 * l.length
  | [], x, h => by cases h; simp
  | d :: ds, x, h => by
    obtain ⟨a, b, h1, h2, rfl⟩ := all_cons h
    have := expand_four h1
    have := all_four h2
    simp; omega
theorem rcl_len {l : List PNode} {k : Int} {media : List B} : ∀ {rs : List PRule}, (∀ r ∈ rs, RuleLim r) → (rcl l k media rs).length ≤ 80 * rs.length
  | [], _ => by simp [rcl]
  | r :: rs, h => by
    have ih := rcl_len (l := l) (k := k) (media := media) fun q hq => h q (List.mem_cons_of_mem r hq)
    have hd := (h r (by simp)).decls
    have hp : (plainOf r).length ≤ 80 := by
      unfold plainOf
      cases hp : pAll r.decls with
      | none => simp
      | some x => have := all_four hp; simp; omega
    unfold rcl at ih ⊢
    rw [List.flatMap_cons, List.length_append, List.length_cons]
    split
    · rw [List.length_map]; omega
    · rw [List.length_nil]; omega
theorem look_lim {s : B} {l : List PNode} {rules : List PRule} {T : PT} (h : ReadAs s l rules T) (L : ReadLim s l rules) {gone : List PRule} (hg : ∀ r ∈ gone, r ∈ rules) (hn : gone.length ≤ rules.length) {k : Nat} {n : PNode} (hk : l[k]? = some n) :
    ∃ look, cDeclared l (k : Int) gone [] = .ok look ∧ look.length ≤ 5000 ∧ (∀ d ∈ look, DeclOk d) ∧ (styleText l k gone).1 = sPrint look ∧ (styleText l k gone).2 = decide (look.length ≤ 20) := by
  have H := style_as h hg hk
  refine ⟨_, H.said, ?_, fun d hd => (H.fine d hd).1, H.text, H.fits⟩
  have h1 := cLook_len (rcl l (k : Int) [] gone ++ ownClaims (ownOf n))
  have h2 := rcl_len (l := l) (k := (k : Int)) (media := []) (rs := gone) fun r hr => (L.rule r (hg r hr)).1
  have h3 := L.most
  have h4 : (ownOf n).length ≤ 80 := by
    have ho := (nodes_own h.own (List.mem_of_getElem? hk)).1
    unfold ownDecls at ho
    cases hd : sDeclsOf (pGet n.attrs styleName).1 with
    | bad f => rw [hd] at ho; cases ho
    | ok ds =>
      rw [hd] at ho
      simp only at ho
      cases hp : pAll ds with
      | none => rw [hp] at ho; cases ho
      | some x =>
        rw [hp] at ho
        simp only [Ans.ok.injEq] at ho
        have := all_four hp
        have := (declsOf_ok_of hd).2
        rw [← ho]; omega
  have h5 : (rcl l (k : Int) [] gone ++ ownClaims (ownOf n)).length = (rcl l (k : Int) [] gone).length + (ownOf n).length := by rw [List.length_append]; simp [ownClaims]
  omega
def allEd (rules : List PRule) (st : List Bool) (es : List PEdit) : List PEdit := (goneR rules st).map goneEd ++ es
theorem edits_as {s : B} {l : List PNode} {rules : List PRule} {st : List Bool} {T : PT} {es : List PEdit} (h : ReadAs s l rules T) (hs : st.length = rules.length) (he : ownsEd l (goneR rules st) 0 l = .ok es) :
    EdRise (sortEd (allEd rules st es)) ∧ EdOk s 0 (sortEd (allEd rules st es)) := by
  obtain ⟨rfl, hc⟩ := ownsEd_ok he
  have hr := (tree_rise (fun k => (styleText l k (goneR rules st)).1) (goes st) T 0 0 0 h.ok).1
  have ht : sortEd (allEd rules st (ownL (fun k => (styleText l k (goneR rules st)).1) 0 l)) = treeEd (fun k => (styleText l k (goneR rules st)).1) (goes st) 0 0 0 T := by
    refine sortEd_eq hr ?_
    refine (tree_perm _ _ T 0 0 0).trans ?_
    unfold allEd
    rw [← gone_tree _ T 0 0 h.ok, ← h.rulesEq, ← gone_keep hs, ← own_tree _ T 1 0 0 (-1) h.wf, ← h.nodes]
  have hp := page_makes (fun k => (styleText l k (goneR rules st)).1) (goes st) h.wf h.ok
  rw [← h.text] at hp
  rw [ht]
  exact ⟨hr, hp.1⟩
theorem sorted_is {xs ys : List PEdit} (hr : EdRise (sortEd xs)) (hp : ys.Perm xs) (hs : ys.Pairwise (fun a b => a.lo ≤ b.lo)) : ys = sortEd xs := by
  refine EdRise.unique (rise_of_sorted hs ?_) hr (hp.trans (sortEd_perm xs).symm)
  rw [((hp.trans (sortEd_perm xs).symm).map (·.lo)).nodup_iff]
  generalize sortEd xs = zs at hr
  clear hs hp
  induction hr with
  | nil => simp
  | cons h hs ih =>
    rw [List.map_cons, List.nodup_cons]
    refine ⟨fun hm => ?_, ih⟩
    obtain ⟨y, hy, he⟩ := List.mem_map.1 hm
    have := h y hy
    omega
theorem edOk_lo {s : B} : ∀ {es : List PEdit} {a : Nat}, EdOk s a es → ∀ e ∈ es, e.lo ≤ s.length ∧ e.hi ≤ s.length
  | [], _, _, e, he => by cases he
  | x :: xs, a, ⟨h1, h2, h3, h4⟩, e, he => by
    rcases List.mem_cons.1 he with rfl | he
    · omega
    · exact edOk_lo h4 e he
theorem editsF_len {s : B} {M : Nat} : ∀ {es : List PEdit} {a : Nat}, EdOk s a es → (∀ e ∈ es, e.text.length ≤ M) → (editsF s a es).length ≤ s.length + M * es.length
  | [], a, h, _ => by simp [editsF]
  | e :: es, a, h, hM => by
    have key : ∀ {es : List PEdit} {a : Nat}, EdOk s a es → (∀ e ∈ es, e.text.length ≤ M) → (editsF s a es).length + a ≤ s.length + M * es.length := by
      intro es
      induction es with
      | nil => intro a h _; simp only [editsF, List.length_drop, List.length_nil, Nat.mul_zero, Nat.add_zero]; have := EdOk.le h; omega
      | cons e es ih =>
        intro a ⟨h1, h2, h3, h4⟩ hM
        have := ih h4 fun x hx => hM x (List.mem_cons_of_mem _ hx)
        have := hM e (by simp)
        have := sub_len s h1 (by omega : e.lo ≤ s.length)
        simp only [editsF, List.length_append, List.length_cons, Nat.mul_add, Nat.mul_one]
        omega
    have := key h hM
    omega
theorem goneR_sub : ∀ {rs : List PRule} {bs : List Bool}, (∀ r ∈ goneR rs bs, r ∈ rs) ∧ (goneR rs bs).length ≤ rs.length
  | [], _ => by cases ‹List Bool› <;> simp [goneR]
  | r :: rs, [] => by simp [goneR]
  | r :: rs, b :: bs => by
    have ih := goneR_sub (rs := rs) (bs := bs)
    simp only [goneR]
    split
    · exact ⟨fun q hq => List.mem_cons_of_mem _ (ih.1 q hq), by have := ih.2; simp; omega⟩
    · refine ⟨fun q hq => ?_, by have := ih.2; simp; omega⟩
      rcases List.mem_cons.1 hq with rfl | hq
      · simp
      · exact List.mem_cons_of_mem _ (ih.1 q hq)
theorem goneR_take : ∀ {rs : List PRule} {bs : List Bool} {i : Nat} {r : PRule} {b : Bool}, rs[i]? = some r → bs[i]? = some b → goneR (rs.take (i + 1)) (bs.take (i + 1)) = goneR (rs.take i) (bs.take i) ++ (if b then [] else [r])
  | [], _, i, r, b, h, _ => by simp at h
  | _ :: _, [], i, r, b, _, h => by simp at h
  | x :: rs, y :: bs, 0, r, b, h, g => by
    simp at h g; subst h g
    cases y <;> simp [goneR]
  | x :: rs, y :: bs, i + 1, r, b, h, g => by
    have := goneR_take (rs := rs) (bs := bs) (i := i) (by simpa using h) (by simpa using g)
    simp only [List.take_succ_cons, goneR] at this ⊢
    rw [this]
    cases y <;> simp
def foldFin (s : B) (E : List PEdit) : Ans B := if 6000 < (editsF s 0 (sortEd E)).length then .bad ⟨4, 0⟩ else .ok (editsF s 0 (sortEd E))
theorem fFold_eq (s : B) (l : List PNode) (rules : List PRule) (st : List Bool) : fFold s l rules st = (ownsEd l (goneR rules st) 0 l).then fun es => foldFin s ((goneR rules st).map goneEd ++ es) := rfl
theorem owns_step {α : Type} (l : List PNode) (gone : List PRule) (k : Nat) (n : PNode) (ns : List PNode) (E : List PEdit) (K : List PEdit → Ans α) :
    ((ownsEd l gone k (n :: ns)).then fun es => K (E ++ es)) = if (styleText l k gone).2 = false ∨ (pGet n.attrs styleName).2 = false ∧ n.attrs.length = 8 ∧ (styleText l k gone).1 ≠ [] then .bad ⟨5, n.nameEnd.toNat⟩
      else (ownsEd l gone (k + 1) ns).then fun es => K ((E ++ (fOwn n (styleText l k gone).1).toList) ++ es) := by
  simp only [ownsEd]
  split
  · rfl
  · cases ownsEd l gone (k + 1) ns with
    | bad f => rfl
    | ok es => simp only [Ans.ok_then, List.append_assoc]
theorem owns_part {l : List PNode} {gone : List PRule} : ∀ {ns : List PNode} {k : Nat}, (∃ es, ownsEd l gone k ns = .ok es) ∨ ∃ f, ownsEd l gone k ns = .bad f := by
  intro ns k
  cases h : ownsEd l gone k ns with
  | bad f => exact .inr ⟨f, rfl⟩
  | ok es => exact .inl ⟨es, rfl⟩
theorem owns_more {l : List PNode} {gone : List PRule} {k : Nat} {n : PNode} {ns : List PNode} {es : List PEdit} (h : ¬ ((styleText l k gone).2 = false ∨ (pGet n.attrs styleName).2 = false ∧ n.attrs.length = 8 ∧ (styleText l k gone).1 ≠ [])) (he : ownsEd l gone (k + 1) ns = .ok es) :
    ownsEd l gone k (n :: ns) = .ok ((fOwn n (styleText l k gone).1).toList ++ es) := by
  simp only [ownsEd]
  rw [if_neg h, he]
  rfl
theorem fOwn_len {n : PNode} {t : B} {x : PEdit} (h : fOwn n t = some x) : x.text.length ≤ t.length + 9 := by
  unfold fOwn at h
  split at h
  · cases h
  · cases h
    simp only
    split
    · simp
    · simp [styleHead]
end Go.Proofs.YtplbdlgmjehckacGreatDoor
namespace Go.Proofs.YtplbdlgmjehckacGreatDoor
set_option linter.unusedVariables false
set_option linter.unusedSimpArgs false
def rdNodes (l : List PNode) (all : List PRule) (as' : List PAttr) : Ans (List PNode × List PRule) := match as'.findSome? attrBad with
  | some f => .bad f
  | none => .ok (l, all)
def rdRules (l : List PNode) (all rs : List PRule) : Ans (List PNode × List PRule) := match rulesBad rs with
  | some f => .bad f
  | none => rdNodes l all (l.flatMap (·.attrs))
def rdRest (l : List PNode) (rs : List PRule) : Ans (List PNode × List PRule) := if 60 < rs.length then .bad ⟨5, 0⟩ else rdRules l rs rs
theorem fRead_eq (s : B) : fRead s = (pParse s).then fun l => (styleRules s l).then fun rs => rdRest l rs := by
  rfl
theorem rdRules_cons (l : List PNode) (all : List PRule) (r : PRule) (rs : List PRule) : rdRules l all (r :: rs) = if (pAll r.decls).isNone = true then .bad ⟨5, r.lo.toNat⟩ else rdRules l all rs := by
  unfold rdRules rulesBad
  rw [List.find?_cons]
  cases h : (pAll r.decls).isNone with
  | true => rfl
  | false => rfl
theorem rdRules_nil (l : List PNode) (all : List PRule) : rdRules l all [] = rdNodes l all (l.flatMap (·.attrs)) := rfl
theorem rdNodes_cons (l : List PNode) (all : List PRule) (a : PAttr) (as' : List PAttr) : rdNodes l all (a :: as') = match attrBad a with | some f => .bad f | none => rdNodes l all as' := by
  unfold rdNodes
  rw [List.findSome?_cons]
  cases attrBad a <;> rfl
theorem rdNodes_nil (l : List PNode) (all : List PRule) : rdNodes l all [] = .ok (l, all) := rfl
theorem style_step {α : Type} (s : B) (n : PNode) (ns : List PNode) (rs : List PRule) (K : List PRule → Ans α) :
    ((styleRules s (n :: ns)).then fun qs => K (rs ++ qs)) = if n.name = styleName then (match sParse (sub s n.inF.toNat n.inT.toNat) with
      | .bad f => .bad ⟨f.err, n.inF.toNat + f.pos⟩
      | .ok xs => (styleRules s ns).then fun qs => K ((rs ++ xs.map (PRule.shift n.inF.toNat)) ++ qs)) else (styleRules s ns).then fun qs => K (rs ++ qs) := by
  simp only [styleRules]
  split
  · cases sParse (sub s n.inF.toNat n.inT.toNat) with
    | bad f => rfl
    | ok xs =>
      simp only
      cases styleRules s ns with
      | bad g => rfl
      | ok qs => simp only [Ans.ok_then, List.append_assoc]
  · rfl
theorem styleRules_err {s : B} : ∀ {ns : List PNode} {f : Flt}, styleRules s ns = .bad f → f.err ≠ 0
  | [], f, h => by cases h
  | n :: ns, f, h => by
    simp only [styleRules] at h
    split at h
    · cases hs : sParse (sub s n.inF.toNat n.inT.toNat) with
      | bad g => rw [hs] at h; cases h; exact (sparse_bad hs).1
      | ok xs =>
        rw [hs] at h
        cases hq : styleRules s ns with
        | bad g => rw [hq] at h; cases h; exact styleRules_err hq
        | ok qs => rw [hq] at h; cases h
    · exact styleRules_err h
theorem attrBad_err {a : PAttr} {f : Flt} (h : attrBad a = some f) : f.err ≠ 0 := by
  unfold attrBad at h
  split at h
  · cases hd : sDeclsOf a.val with
    | bad g => rw [hd] at h; cases h; exact (sdeclsOf_bad hd).1
    | ok ds =>
      rw [hd] at h
      simp only at h
      split at h
      · cases h; simp
      · cases h
  · cases h
theorem read_err {s : B} {f : Flt} (h : fRead s = .bad f) : f.err ≠ 0 := by
  rw [fRead_eq] at h
  cases hp : pParse s with
  | bad g =>
    rw [hp] at h; cases h
    have := parse_fact s
    rw [hp] at this
    exact this.1
  | ok l =>
    rw [hp, Ans.ok_then] at h
    cases hs : styleRules s l with
    | bad g => rw [hs] at h; cases h; exact styleRules_err hs
    | ok rs =>
      rw [hs, Ans.ok_then] at h
      unfold rdRest at h
      split at h
      · cases h; simp
      · unfold rdRules at h
        cases hr : rulesBad rs with
        | some g =>
          rw [hr] at h; cases h
          unfold rulesBad at hr
          rw [Option.map_eq_some_iff] at hr
          obtain ⟨r, _, rfl⟩ := hr
          simp
        | none =>
          rw [hr] at h
          simp only at h
          unfold rdNodes at h
          cases hn : (l.flatMap (·.attrs)).findSome? attrBad with
          | some g =>
            rw [hn] at h; cases h
            obtain ⟨a, _, ha⟩ := List.exists_of_findSome?_eq_some hn
            exact attrBad_err ha
          | none => rw [hn] at h; cases h
end Go.Proofs.YtplbdlgmjehckacGreatDoor
namespace Go.Proofs.YtplbdlgmjehckacGreatDoor
set_option linter.unusedVariables false
set_option linter.unusedSimpArgs false
structure SvM where
  ms : List (Nat × B)
  more : Bool
def svAdd (x : SvM) (p : Nat × B) : SvM := if p ∈ x.ms then x else ⟨x.ms ++ [p], true⟩
def svAddAll (x : SvM) (ps : List (Nat × B)) : SvM := ps.foldl svAdd x
def svLeft (all ms : List (Nat × B)) : Nat := all.countP (fun p => decide (p ∉ ms))
theorem svAdd_sub (x : SvM) (p : Nat × B) : ∀ q ∈ x.ms, q ∈ (svAdd x p).ms := by
  intro q hq; unfold svAdd; split
  · exact hq
  · exact List.mem_append_left _ hq
theorem svAdd_mem (x : SvM) (p : Nat × B) : p ∈ (svAdd x p).ms := by
  unfold svAdd; split
  · assumption
  · simp
theorem svAdd_more (x : SvM) (p : Nat × B) (h : (svAdd x p).more = false) : svAdd x p = x := by
  unfold svAdd at h ⊢; split
  · rfl
  · rename_i hp; rw [if_neg hp] at h; cases h
theorem svAdd_from (x : SvM) (p : Nat × B) : ∀ q ∈ (svAdd x p).ms, q ∈ x.ms ∨ q = p := by
  intro q hq; unfold svAdd at hq; split at hq
  · exact .inl hq
  · simpa using hq
theorem svAddAll_sub : ∀ (ps : List (Nat × B)) (x : SvM), ∀ q ∈ x.ms, q ∈ (svAddAll x ps).ms
  | [], _, _, h => h
  | p :: ps, x, q, h => svAddAll_sub ps (svAdd x p) q (svAdd_sub x p q h)
theorem svAddAll_mem : ∀ (ps : List (Nat × B)) (x : SvM), ∀ q ∈ ps, q ∈ (svAddAll x ps).ms
  | p :: ps, x, q, h => by
    rcases List.mem_cons.1 h with rfl | h
    · exact svAddAll_sub ps _ q (svAdd_mem x q)
    · exact svAddAll_mem ps (svAdd x p) q h
theorem svAddAll_from : ∀ (ps : List (Nat × B)) (x : SvM), ∀ q ∈ (svAddAll x ps).ms, q ∈ x.ms ∨ q ∈ ps
  | [], _, _, h => .inl h
  | p :: ps, x, q, h => by
    rcases svAddAll_from ps (svAdd x p) q h with h | h
    · rcases svAdd_from x p q h with h | rfl
      · exact .inl h
      · exact .inr (by simp)
    · exact .inr (by simp [h])
theorem svAddAll_more : ∀ (ps : List (Nat × B)) (x : SvM), (svAddAll x ps).more = false → svAddAll x ps = x
  | [], _, _ => rfl
  | p :: ps, x, h => by
    have h1 : svAddAll (svAdd x p) ps = svAdd x p := svAddAll_more ps (svAdd x p) h
    show svAddAll (svAdd x p) ps = x
    have h2 : (svAddAll (svAdd x p) ps).more = false := h
    rw [h1] at h2 ⊢
    exact svAdd_more x p h2
theorem svLeft_le {all ms ms' : List (Nat × B)} (h : ∀ q ∈ ms, q ∈ ms') : svLeft all ms' ≤ svLeft all ms := by
  unfold svLeft
  refine List.countP_mono_left (fun p _ hp => ?_)
  simp only [decide_eq_true_eq] at hp ⊢
  exact fun hq => hp (h p hq)
theorem svLeft_lt : ∀ {all ms ms' : List (Nat × B)} {p : Nat × B}, (∀ q ∈ ms, q ∈ ms') → p ∈ all → p ∉ ms → p ∈ ms' → svLeft all ms' < svLeft all ms
  | [], _, _, _, _, h, _, _ => by cases h
  | a :: all, ms, ms', p, hs, h, h1, h2 => by
    have hle := svLeft_le (all := all) hs
    have e : ∀ (b : Bool) (n : Nat), n + (if b = true then 1 else 0) = n + b.toNat := by intro b n; cases b <;> rfl
    unfold svLeft at hle ⊢
    rw [List.countP_cons, List.countP_cons, e, e]
    rcases List.mem_cons.1 h with rfl | h
    · have e1 : (decide (p ∉ ms')) = false := by simp [h2]
      have e2 : (decide (p ∉ ms)) = true := by simp [h1]
      rw [e1, e2]; simp only [Bool.toNat_false, Bool.toNat_true]; omega
    · have := svLeft_lt hs h h1 h2
      unfold svLeft at this
      have e3 : (decide (a ∉ ms')).toNat ≤ (decide (a ∉ ms)).toNat := by
        by_cases ha : a ∈ ms
        · have ha' := hs a ha
          simp [ha, ha']
        · have e2 : (decide (a ∉ ms)) = true := by simp [ha]
          rw [e2]; exact Bool.toNat_le _
      omega
theorem svAdd_left {all : List (Nat × B)} (x : SvM) (p : Nat × B) (hp : p ∈ all) : svLeft all (svAdd x p).ms ≤ svLeft all x.ms ∧ ((svAdd x p).more = true → x.more = true ∨ svLeft all (svAdd x p).ms < svLeft all x.ms) := by
  refine ⟨svLeft_le (svAdd_sub x p), fun h => ?_⟩
  by_cases hm : p ∈ x.ms
  · left; unfold svAdd at h; rw [if_pos hm] at h; exact h
  · exact .inr (svLeft_lt (svAdd_sub x p) hp hm (svAdd_mem x p))
structure SvS where
  sb : List Bool
  m : SvM
def svStep (ps : List (Nat × B)) (i : Nat) (s : SvS) : SvS :=
  if (s.sb[i]? == some true) || ps.any (fun p => decide (p ∈ s.m.ms)) then ⟨s.sb.set i true, svAddAll s.m ps⟩ else ⟨s.sb.set i false, s.m⟩
variable {ns : List PNode} {rules : List PRule}
structure SvInv (ns : List PNode) (rules : List PRule) (sb : List Bool) (ms : List (Nat × B)) : Prop where
  len : sb.length = rules.length
  sound : ∀ i : Nat, sb[i]? = some true → Stay ns rules i
  blk : ∀ p ∈ ms, ∃ (j : Nat) (r : PRule), rules[j]? = some r ∧ Stay ns rules j ∧ p ∈ touches ns r
  media : ∀ (i : Nat) (r : PRule), rules[i]? = some r → r.media ≠ [] → sb[i]? = some true
structure SvAt (ns : List PNode) (rules : List PRule) (ms0 : List (Nat × B)) (i : Nat) (s : SvS) : Prop where
  inv : SvInv ns rules s.sb s.m.ms
  sub : ∀ q ∈ ms0, q ∈ s.m.ms
  left : s.m.more = true → svLeft (rules.flatMap (touches ns)) s.m.ms < svLeft (rules.flatMap (touches ns)) ms0
  same : s.m.more = false → s.m.ms = ms0 ∧ ∀ (j : Nat), j < i → ∀ (r : PRule), rules[j]? = some r → ((∃ p ∈ touches ns r, p ∈ ms0) → s.sb[j]? = some true) ∧ (s.sb[j]? = some true → ∀ p ∈ touches ns r, p ∈ ms0)
theorem SvAt.start {sb : List Bool} {ms : List (Nat × B)} (h : SvInv ns rules sb ms) : SvAt ns rules ms 0 ⟨sb, ms, false⟩ :=
  ⟨h, fun q hq => hq, fun hh => (by cases hh), fun _ => ⟨rfl, fun j hj => (by omega)⟩⟩
theorem svAddAll_left {all : List (Nat × B)} : ∀ (ps : List (Nat × B)) (x : SvM), (∀ p ∈ ps, p ∈ all) → (svAddAll x ps).more = true → x.more = true ∨ svLeft all (svAddAll x ps).ms < svLeft all x.ms
  | [], _, _, h => .inl h
  | p :: ps, x, hp, h => by
    have h0 := svAdd_left x p (hp p (by simp))
    have hle : svLeft all (svAddAll (svAdd x p) ps).ms ≤ svLeft all (svAdd x p).ms := svLeft_le (svAddAll_sub ps _)
    rcases svAddAll_left ps (svAdd x p) (fun q hq => hp q (by simp [hq])) h with h1 | h1
    · rcases h0.2 h1 with h2 | h2
      · exact .inl h2
      · exact .inr (Nat.lt_of_le_of_lt hle h2)
    · exact .inr (Nat.lt_of_lt_of_le h1 h0.1)
theorem SvAt.step {ms0 : List (Nat × B)} {i : Nat} {s : SvS} {r : PRule} (h : SvAt ns rules ms0 i s) (hr : rules[i]? = some r) : SvAt ns rules ms0 (i + 1) (svStep (touches ns r) i s) := by
  have hil : i < s.sb.length := by rw [h.inv.len]; exact (List.getElem?_eq_some_iff.1 hr).1
  have hall : ∀ p ∈ touches ns r, p ∈ rules.flatMap (touches ns) := fun p hp => List.mem_flatMap.2 ⟨r, List.mem_of_getElem? hr, hp⟩
  unfold svStep
  split
  · rename_i hc
    have hst : Stay ns rules i := by
      rcases (Bool.or_eq_true _ _).mp hc with hc | hc
      · exact h.inv.sound i (by simpa using hc)
      · obtain ⟨p, hp, hq⟩ := List.any_eq_true.1 hc
        obtain ⟨j, q, hj, hs, hpq⟩ := h.inv.blk p (by simpa using hq)
        exact .meet hr hj hs hp hpq
    refine ⟨⟨by simpa using h.inv.len, fun j hj => ?_, fun p hp => ?_, fun j q hj hm => ?_⟩, fun q hq => svAddAll_sub _ _ _ (h.sub q hq), fun hm => ?_, fun hm => ?_⟩
    · rw [List.getElem?_set] at hj
      split at hj
      · rename_i he; exact he ▸ hst
      · exact h.inv.sound j hj
    · rcases svAddAll_from _ _ _ hp with hp | hp
      · exact h.inv.blk p hp
      · exact ⟨i, r, hr, hst, hp⟩
    · rw [List.getElem?_set]
      split
      · rfl
      · exact h.inv.media j q hj hm
    · rcases svAddAll_left _ _ hall hm with h1 | h1
      · exact Nat.lt_of_le_of_lt (svLeft_le (svAddAll_sub _ _)) (h.left h1)
      · exact Nat.lt_of_lt_of_le h1 (svLeft_le h.sub)
    · have he := svAddAll_more _ _ hm
      have hm' : s.m.more = false := by rw [← he]; exact hm
      obtain ⟨h1, h2⟩ := h.same hm'
      refine ⟨(congrArg SvM.ms he).trans h1, fun j hj q hq => ?_⟩
      by_cases hji : j = i
      · subst hji
        rw [hr] at hq; cases hq
        refine ⟨fun _ => by rw [List.getElem?_set, if_pos rfl]; simp [hil], fun _ p hp => ?_⟩
        have := svAddAll_mem (touches ns r) s.m p hp
        rw [he, h1] at this
        exact this
      · rw [List.getElem?_set, if_neg (fun e => hji e.symm)]
        exact h2 j (by omega) q hq
  · rename_i hc
    rw [Bool.not_eq_true, Bool.or_eq_false_iff] at hc
    obtain ⟨hc1, hc2⟩ := hc
    have hsi : s.sb[i]? = some false := by
      have := List.getElem?_eq_getElem hil
      cases hv : s.sb[i] with
      | false => rw [this, hv]
      | true => rw [this, hv] at hc1; simp at hc1
    have hset : s.sb.set i false = s.sb := by
      apply List.ext_getElem?
      intro j
      rw [List.getElem?_set]
      split
      · rename_i he; subst he; rw [hsi]
      · rfl
    simp only [hset]
    refine ⟨h.inv, h.sub, h.left, fun hm => ?_⟩
    obtain ⟨h1, h2⟩ := h.same hm
    refine ⟨h1, fun j hj q hq => ?_⟩
    by_cases hji : j = i
    · subst hji
      rw [hr] at hq; cases hq
      refine ⟨?_, fun hh => by rw [hsi] at hh; cases hh⟩
      rintro ⟨p, hp, hpm⟩
      rw [← h1] at hpm
      have := List.any_eq_false.1 hc2 p hp
      simp [hpm] at this
    · exact h2 j (by omega) q hq
theorem SvAt.done {ms0 : List (Nat × B)} {s : SvS} (h : SvAt ns rules ms0 rules.length s) (hm : s.m.more = false) : IsStays ns rules s.sb := by
  obtain ⟨h1, h2⟩ := h.same hm
  have key : ∀ i, Stay ns rules i → s.sb[i]? = some true := by
    intro i hi
    induction hi with
    | media hr hmd => exact h.inv.media _ _ hr hmd
    | meet hi hj hs p1 p2 ih =>
      have := (h2 _ (List.getElem?_eq_some_iff.1 hj).1 _ hj).2 ih _ p2
      exact (h2 _ (List.getElem?_eq_some_iff.1 hi).1 _ hi).1 ⟨_, p1, this⟩
  refine ⟨h.inv.len, fun i b hb => ⟨fun e => h.inv.sound i (by rw [hb, e]), fun hs => ?_⟩⟩
  have := key i hs
  rw [hb] at this
  exact Option.some.inj this
theorem SvInv.start (ns : List PNode) (rules : List PRule) : SvInv ns rules (rules.map fun r => decide (r.media ≠ [])) [] := by
  refine ⟨by simp, fun i hi => ?_, fun p hp => (List.not_mem_nil hp).elim, fun i r hr hm => ?_⟩
  · rw [List.getElem?_map] at hi
    cases hr : rules[i]? with
    | none => rw [hr] at hi; cases hi
    | some r =>
      rw [hr] at hi
      simp only [Option.map_some, Option.some.injEq, decide_eq_true_eq] at hi
      exact .media hr hi
  · rw [List.getElem?_map, hr]
    simp [hm]
end Go.Proofs.YtplbdlgmjehckacGreatDoor
namespace Go.Proofs.YtplbdlgmjehckacGreatDoor
set_option linter.unusedVariables false
set_option linter.unusedSimpArgs false
theorem mem_keepP_iff {α : Type} (p : Nat → Bool) {x : α} : ∀ {xs : List α} {i : Nat}, x ∈ keepP p i xs ↔ ∃ j, xs[j]? = some x ∧ p (i + j) = false
  | [], i => by simp [keepP]
  | y :: ys, i => by
    have ih := mem_keepP_iff p (x := x) (xs := ys) (i := i + 1)
    simp only [keepP]
    constructor
    · intro h
      split at h
      · obtain ⟨j, h1, h2⟩ := ih.1 h
        exact ⟨j + 1, by simpa using h1, by rw [show i + (j + 1) = i + 1 + j from by omega]; exact h2⟩
      · rename_i hp
        rcases List.mem_cons.1 h with rfl | h
        · exact ⟨0, rfl, by simpa using hp⟩
        · obtain ⟨j, h1, h2⟩ := ih.1 h
          exact ⟨j + 1, by simpa using h1, by rw [show i + (j + 1) = i + 1 + j from by omega]; exact h2⟩
    · rintro ⟨j, h1, h2⟩
      cases j with
      | zero =>
        simp only [List.getElem?_cons_zero, Option.some.injEq] at h1
        subst h1
        rw [Nat.add_zero] at h2
        rw [if_neg (by rw [h2]; simp)]
        simp
      | succ j =>
        have := ih.2 ⟨j, by simpa using h1, by rw [show i + 1 + j = i + (j + 1) from by omega]; exact h2⟩
        split
        · exact this
        · exact List.mem_cons_of_mem _ this
theorem goes_iff {l : List PNode} {rules : List PRule} {st : List Bool} (h : IsStays l rules st) {i : Nat} (hi : i < rules.length) : goes st i = false ↔ Stay l rules i := by
  have h1 := List.getElem?_eq_getElem (show i < st.length by rw [h.len]; exact hi)
  have h2 := h.iff _ _ h1
  unfold goes
  rw [h1, ← h2]
  cases st[i]'(by rw [h.len]; exact hi) <;> simp
theorem apart {l : List PNode} {rules : List PRule} {st : List Bool} (h : IsStays l rules st) {r q : PRule} (hr : r ∈ keepP (goes st) 0 rules) (hq : q ∈ goneR rules st) {p : Nat × B} (h1 : p ∈ touches l r) (h2 : p ∈ touches l q) : False := by
  rw [gone_keep h.len] at hq
  obtain ⟨i, hi, gi⟩ := (mem_keepP_iff _).1 hr
  obtain ⟨j, hj, gj⟩ := (mem_keepP_iff _).1 hq
  rw [Nat.zero_add] at gi gj
  have hs := (goes_iff h (List.getElem?_eq_some_iff.1 hi).1).1 gi
  have hs' : Stay l rules j := .meet hj hi hs h2 h1
  have := (goes_iff h (List.getElem?_eq_some_iff.1 hj).1).2 hs'
  rw [this] at gj; cases gj
theorem gone_media {l : List PNode} {rules : List PRule} {st : List Bool} (h : IsStays l rules st) {q : PRule} (hq : q ∈ goneR rules st) : q.media = [] := by
  rw [gone_keep h.len] at hq
  obtain ⟨j, hj, gj⟩ := (mem_keepP_iff _).1 hq
  rw [Nat.zero_add] at gj
  refine Classical.byContradiction fun hm => ?_
  have := (goes_iff h (List.getElem?_eq_some_iff.1 hj).1).2 (.media hj hm)
  rw [this] at gj; cases gj
def cl (l : List PNode) (k : Int) (media : List B) (r : PRule) : List PClaim := if (mBest l k r.sels).2 && counts r media then (plainOf r).map (fun x => ⟨x, false, (mBest l k r.sels).1⟩) else []
theorem rcl_cons (l : List PNode) (k : Int) (media : List B) (r : PRule) (rs : List PRule) : rcl l k media (r :: rs) = cl l k media r ++ rcl l k media rs := rfl
theorem winner_nil (n : B) : winner [] n = none := rfl
theorem cl_none {l : List PNode} {k : Nat} {media : List B} {r : PRule} {n : B} (hk : k < l.length) (h : (k, n) ∉ touches l r) : winner (cl l (k : Int) media r) n = none := by
  have hf := winner_fact (cl l (k : Int) media r) n
  cases hw : winner (cl l (k : Int) media r) n with
  | none => rfl
  | some w =>
    exfalso
    rw [hw] at hf
    obtain ⟨h1, h2, _⟩ := hf
    unfold cl at h1
    split at h1
    · rename_i hb
      obtain ⟨d, hd, rfl⟩ := List.mem_map.1 h1
      rw [Bool.and_eq_true] at hb
      exact h (mem_touches.2 ⟨hk, hb.1, d, hd, h2⟩)
    · cases h1
theorem rcl_keep {l : List PNode} {k : Nat} {media : List B} {n : B} (hk : k < l.length) (p : Nat → Bool) : ∀ (rs : List PRule) (i : Nat), (∀ j r, rs[j]? = some r → p (i + j) = true → (k, n) ∉ touches l r) →
    winner (rcl l (k : Int) media rs) n = winner (rcl l (k : Int) media (keepP p i rs)) n
  | [], _, _ => rfl
  | r :: rs, i, h => by
    have ih := rcl_keep (media := media) hk p rs (i + 1) fun j q hq hp => h (j + 1) q (by simpa using hq) (by rw [show i + (j + 1) = i + 1 + j from by omega]; exact hp)
    rw [rcl_cons, winner_app, ih]
    simp only [keepP]
    split
    · rename_i hp
      rw [cl_none hk (h 0 r rfl (by rw [Nat.add_zero]; exact hp))]
      exact (by cases winner (rcl l (k : Int) media (keepP p (i + 1) rs)) n <;> rfl)
    · rw [rcl_cons, winner_app]
theorem rcl_media {l : List PNode} {k : Int} {media media' : List B} : ∀ {rs : List PRule}, (∀ r ∈ rs, r.media = []) → rcl l k media rs = rcl l k media' rs
  | [], _ => rfl
  | r :: rs, h => by
    rw [rcl_cons, rcl_cons, rcl_media (fun q hq => h q (by simp [hq]))]
    unfold cl counts
    rw [h r (by simp)]
    rfl
theorem rcl_none {l : List PNode} {k : Nat} {media : List B} {n : B} (hk : k < l.length) : ∀ {rs : List PRule}, (∀ r ∈ rs, (k, n) ∉ touches l r) → winner (rcl l (k : Int) media rs) n = none
  | [], _ => rfl
  | r :: rs, h => by
    rw [rcl_cons, winner_app, cl_none hk (h r (by simp)), rcl_none hk fun q hq => h q (by simp [hq])]
    rfl
theorem rcl_strip (l : List PNode) (k : Int) (media : List B) (rs : List PRule) : rcl l k media (rs.map stripR) = rcl l k media rs := by
  induction rs with
  | nil => rfl
  | cons r rs ih => rw [List.map_cons, rcl_cons, rcl_cons, ih]; rfl
theorem rcl_rel {tx : Nat → B} {l m : List PNode} (h : RelL tx 0 l m) {rs : List PRule} (hr : ∀ r ∈ rs, RuleOk r) (k : Int) (media : List B) : rcl m k media rs = rcl l k media rs := by
  induction rs with
  | nil => rfl
  | cons r rs ih =>
    rw [rcl_cons, rcl_cons, ih fun q hq => hr q (by simp [hq])]
    unfold cl
    rw [rel_best h (hr r (by simp)).sels]
theorem winner_own {ds : List PDecl} {n : B} {c : PClaim} (h : winner (ownClaims ds) n = some c) : c = ⟨c.d, true, ⟨0, 0, 0⟩⟩ ∧ c.d ∈ ds ∧ c.d.name = n := by
  have hf := winner_fact (ownClaims ds) n
  rw [h] at hf
  obtain ⟨h1, h2, _⟩ := hf
  unfold ownClaims at h1
  obtain ⟨d, hd, rfl⟩ := List.mem_map.1 h1
  exact ⟨rfl, hd, h2⟩
theorem winner_ownLook (cs : List PClaim) (n : B) : winner (ownClaims (cLook cs)) n = (winner cs n).map fun c => ⟨c.d, true, ⟨0, 0, 0⟩⟩ := by
  cases hw : winner (ownClaims (cLook cs)) n with
  | some w =>
    obtain ⟨h1, h2, h3⟩ := winner_own hw
    obtain ⟨c, hc, hd⟩ := look_mem.1 h2
    rw [h3] at hc
    rw [hc, Option.map_some, hd, ← h1]
  | none =>
    have hf := winner_fact (ownClaims (cLook cs)) n
    rw [hw] at hf
    cases hc : winner cs n with
    | none => rfl
    | some c =>
      exfalso
      have hf2 := winner_fact cs n
      rw [hc] at hf2
      have hm : c.d ∈ cLook cs := look_mem.2 ⟨c, by rw [hf2.2.1]; exact hc, rfl⟩
      exact hf ⟨c.d, true, ⟨0, 0, 0⟩⟩ (List.mem_map.2 ⟨c.d, hm, rfl⟩) hf2.2.1
theorem look_ownLook (cs : List PClaim) : cLook (ownClaims (cLook cs)) = cLook cs := by
  refine look_ext fun n => ?_
  rw [winner_ownLook, Option.map_map]
  rfl
section
variable {s t : B} {l m : List PNode} {rules qs : List PRule} {st : List Bool} {T : PT}
theorem FoldAs.look_own (F : FoldAs s t l m rules qs st T) {k : Nat} {n n' : PNode} (hn : l[k]? = some n) (hn' : m[k]? = some n') :
    ownOf n' = cLook (rcl l (k : Int) [] (goneR rules st) ++ ownClaims (ownOf n)) ∧ (pGet n'.attrs styleName).1 = sPrint (cLook (rcl l (k : Int) [] (goneR rules st) ++ ownClaims (ownOf n))) := by
  obtain ⟨h1, h2⟩ := F.style k n hn
  obtain ⟨m', hm', hr⟩ := F.rel.get hn
  rw [hn'] at hm'
  cases hm'
  rw [Nat.zero_add] at hr
  have hg : (pGet n'.attrs styleName).1 = sPrint (cLook (rcl l (k : Int) [] (goneR rules st) ++ ownClaims (ownOf n))) := by
    rw [pGet_pr, hr.attrs, getP_set_style, h1.text]
  refine ⟨?_, hg⟩
  generalize cLook (rcl l (k : Int) [] (goneR rules st) ++ ownClaims (ownOf n)) = lk at *
  unfold ownOf ownDecls
  rw [hg, print_read (fun d hd => (h1.fine d hd).1) h2]
  simp only
  rw [all_of_plain fun d hd => (h1.fine d hd).2]
theorem FoldAs.rules_ok (F : FoldAs s t l m rules qs st T) : (∀ r ∈ rules, RuleOk r) ∧ ∀ r ∈ qs, RuleOk r :=
  ⟨fun r hr => treeRules_ok T 0 F.src.ok r (by rw [← F.src.rulesEq]; exact hr), fun r hr => treeRules_ok _ 0 F.dst.ok r (by rw [← F.dst.rulesEq]; exact hr)⟩
theorem FoldAs.claims (F : FoldAs s t l m rules qs st T) (k : Int) (media : List B) : rcl m k media qs = rcl l k media (keepP (goes st) 0 rules) := by
  rw [rcl_rel F.rel F.rules_ok.2, ← rcl_strip, F.kept, keepP_map, rcl_strip]
theorem fold_declared (F : FoldAs s t l m rules qs st T) (S : IsStays l rules st) (k : Int) (media : List B) : cDeclared m k qs media = cDeclared l k rules media := by
  cases hr : inR l k with
  | false =>
    unfold cDeclared
    rw [rel_inR F.rel, hr]
    rfl
  | true =>
    obtain ⟨j, rfl⟩ : ∃ j : Nat, k = (j : Int) := ⟨k.toNat, by simp [inR] at hr; omega⟩
    have hj : j < l.length := by simp [inR] at hr; omega
    have hn := List.getElem?_eq_getElem hj
    generalize l[j] = n at hn
    obtain ⟨n', hn', hnr⟩ := F.rel.get hn
    rw [declared_eq hn (fun r hr => plain_none F.src.plain r hr) F.src.own, declared_eq hn' (fun r hr => plain_none F.dst.plain r hr) F.dst.own, (F.look_own hn hn').1, F.claims]
    congr 1
    refine look_ext fun x => ?_
    rw [winner_app, winner_app, winner_ownLook, winner_app]
    by_cases hst : ∃ r ∈ keepP (goes st) 0 rules, (j, x) ∈ touches l r
    · obtain ⟨r, hrm, hrt⟩ := hst
      have hgone : ∀ q ∈ goneR rules st, (j, x) ∉ touches l q := fun q hq ht => apart S hrm hq hrt ht
      rw [rcl_none hj hgone]
      rw [rcl_keep (media := media) (n := x) hj (goes st) rules 0 fun i q hq hg => hgone q (by rw [gone_keep S.len]; exact (mem_keepP_iff _).2 ⟨i, hq, by rw [hg]; rfl⟩)]
      have hc : comb none (winner (ownClaims (ownOf n)) x) = winner (ownClaims (ownOf n)) x := by cases winner (ownClaims (ownOf n)) x <;> rfl
      rw [hc]
      cases hw : winner (ownClaims (ownOf n)) x with
      | none => rfl
      | some c => rw [Option.map_some, ← (winner_own hw).1]
    · have hst' : ∀ r ∈ keepP (goes st) 0 rules, (j, x) ∉ touches l r := fun r hr ht => hst ⟨r, hr, ht⟩
      rw [rcl_none hj hst']
      rw [rcl_keep (media := media) (n := x) hj (fun i => !goes st i) rules 0 fun i q hq hg => hst' q ((mem_keepP_iff _).2 ⟨i, hq, by simpa using hg⟩)]
      rw [← gone_keep S.len, rcl_media (media := media) (media' := []) fun q hq => gone_media S hq]
      have hc : ∀ a : Option PClaim, comb none a = a := by intro a; cases a <;> rfl
      rw [hc, Option.map_map]
      rfl
theorem fold_value (F : FoldAs s t l m rules qs st T) (S : IsStays l rules st) (k : Int) (media : List B) (name : B) : cValue m k qs media name = cValue l k rules media name := by
  unfold cValue
  have : ∀ (f : Nat) (k : Int), cValueF f m k qs media name = cValueF f l k rules media name := by
    intro f
    induction f with
    | zero => intro k; rfl
    | succ f ih =>
      intro k
      simp only [cValueF, fold_declared F S, rel_parent F.rel, ih]
  exact this _ k
theorem fold_alone (F : FoldAs s t l m rules qs st T) (S : IsStays l rules st) {k : Nat} {n n' : PNode} (hn : l[k]? = some n) (hn' : m[k]? = some n') {look : List PDecl} (hd : cDeclared l (k : Int) rules [] = .ok look) {d : PDecl} (hm : d ∈ look)
    (hf : ∀ r ∈ qs, (k, d.name) ∉ touches m r) : ∃ own, cDeclared m (k : Int) [] [] = .ok own ∧ d ∈ own := by
  have hk : k < l.length := (List.getElem?_eq_some_iff.1 hn).1
  have hk' : k < m.length := (List.getElem?_eq_some_iff.1 hn').1
  rw [declared_eq hn (fun r hr => plain_none F.src.plain r hr) F.src.own] at hd
  cases hd
  refine ⟨_, declared_eq hn' (by simp) F.dst.own, ?_⟩
  rw [(F.look_own hn hn').1]
  show d ∈ cLook (ownClaims (cLook _))
  rw [look_ownLook, look_mem]
  obtain ⟨c, hc, hcd⟩ := look_mem.1 hm
  refine ⟨c, ?_, hcd⟩
  rw [winner_app] at hc ⊢
  have hst' : ∀ r ∈ keepP (goes st) 0 rules, (k, d.name) ∉ touches l r := by
    intro r hr ht
    have : stripR r ∈ qs.map stripR := by rw [F.kept, keepP_map]; exact List.mem_map.2 ⟨r, hr, rfl⟩
    obtain ⟨q, hq, he⟩ := List.mem_map.1 this
    refine hf q hq ?_
    rw [mem_touches] at ht ⊢
    have e1 : (stripR q).sels = (stripR r).sels := by rw [he]
    have e2 : plainOf (stripR q) = plainOf (stripR r) := by rw [he]
    change q.sels = r.sels at e1
    change plainOf q = plainOf r at e2
    rw [rel_best F.rel (F.rules_ok.2 q hq).sels, e1, e2]
    exact ⟨hk', ht.2⟩
  rw [rcl_keep (media := []) (n := d.name) hk (fun i => !goes st i) rules 0 fun i q hq hg => hst' q ((mem_keepP_iff _).2 ⟨i, hq, by simpa using hg⟩), ← gone_keep S.len] at hc
  exact hc
theorem rel_touches {tx : Nat → B} (h : RelL tx 0 l m) {r q : PRule} (hq : RuleOk q) (he : stripR q = stripR r) (p : Nat × B) : p ∈ touches m q ↔ p ∈ touches l r := by
  obtain ⟨k, n⟩ := p
  have e1 : (stripR q).sels = (stripR r).sels := by rw [he]
  have e2 : plainOf (stripR q) = plainOf (stripR r) := by rw [he]
  change q.sels = r.sels at e1
  change plainOf q = plainOf r at e2
  rw [mem_touches, mem_touches, ← h.len, rel_best h hq.sels, e1, e2]
theorem stay_again (F : FoldAs s t l m rules qs st T) (S : IsStays l rules st) {i : Nat} (h : Stay l rules i) : ∀ r, rules[i]? = some r → ∀ j q, qs[j]? = some q → stripR q = stripR r → Stay m qs j := by
  induction h with
  | media hi hm =>
    intro r hr j q hq he
    rw [hi] at hr
    cases hr
    have e1 := congrArg PRule.media he
    change q.media = _ at e1
    exact .media hq (by rw [e1]; exact hm)
  | @meet i i' r0 q0 p hi hj hs h1 h2 ih =>
    intro r hr j q hq he
    rw [hi] at hr
    cases hr
    have hmem : stripR q0 ∈ qs.map stripR := by
      rw [F.kept, keepP_map]
      refine List.mem_map.2 ⟨q0, (mem_keepP_iff _).2 ⟨i', hj, ?_⟩, rfl⟩
      rw [Nat.zero_add]
      exact (goes_iff S (List.getElem?_eq_some_iff.1 hj).1).2 hs
    obtain ⟨q', hq', he'⟩ := List.mem_map.1 hmem
    obtain ⟨j', hj'⟩ := List.getElem?_of_mem hq'
    have hst := ih q0 hj j' q' hj' he'
    exact .meet hq hj' hst ((rel_touches F.rel (F.rules_ok.2 q (List.mem_of_getElem? hq)) he p).2 h1) ((rel_touches F.rel (F.rules_ok.2 q' hq') he' p).2 h2)
theorem all_stay (F : FoldAs s t l m rules qs st T) (S : IsStays l rules st) {j : Nat} (hj : j < qs.length) : Stay m qs j := by
  have hq := List.getElem?_eq_getElem hj
  have hmem : stripR (qs[j]) ∈ keepP (goes st) 0 (rules.map stripR) := by rw [← F.kept]; exact List.mem_map.2 ⟨_, List.getElem_mem hj, rfl⟩
  obtain ⟨i, hi, hg⟩ := (mem_keepP_iff _).1 hmem
  rw [Nat.zero_add] at hg
  rw [List.getElem?_map, Option.map_eq_some_iff] at hi
  obtain ⟨r, hr, he⟩ := hi
  exact stay_again F S ((goes_iff S (List.getElem?_eq_some_iff.1 hr).1).1 hg) r hr j _ hq he.symm
theorem stay_media {i : Nat} (h : Stay l rules i) : ∃ r ∈ rules, r.media ≠ [] := by
  induction h with
  | media hi hm => exact ⟨_, List.mem_of_getElem? hi, hm⟩
  | meet _ _ _ _ _ ih => exact ih
theorem gone_nil : ∀ {rs : List PRule} {bs : List Bool}, (∀ b ∈ bs, b = true) → goneR rs bs = []
  | [], _, _ => by simp [goneR]
  | r :: rs, [], _ => rfl
  | r :: rs, b :: bs, h => by
    simp only [goneR]
    rw [if_pos (h b (by simp))]
    exact gone_nil fun x hx => h x (by simp [hx])
theorem ownsEd_none {l : List PNode} {gone : List PRule} : ∀ {ns : List PNode} {k : Nat}, (∀ j n, ns[j]? = some n → (styleText l (k + j) gone).2 = true ∧ ((pGet n.attrs styleName).1 = (styleText l (k + j) gone).1)) → ownsEd l gone k ns = .ok []
  | [], _, _ => rfl
  | n :: ns, k, h => by
    obtain ⟨h1, h2⟩ := h 0 n rfl
    rw [Nat.add_zero] at h1 h2
    have hval : (pGet n.attrs styleName).2 = false → (pGet n.attrs styleName).1 = [] := by
      unfold pGet
      cases n.attrs.find? (fun a => a.name == styleName) with
      | none => intro _; rfl
      | some a => intro h; cases h
    have ih := ownsEd_none (l := l) (gone := gone) (ns := ns) (k := k + 1) fun j m hm => by
      have := h (j + 1) m (by simpa using hm)
      rwa [show k + (j + 1) = k + 1 + j from by omega] at this
    simp only [ownsEd]
    rw [if_neg, ih]
    · have : fOwn n (styleText l k gone).1 = none := by
        unfold fOwn
        rw [if_pos]
        cases hb : (pGet n.attrs styleName).2 with
        | true => exact .inl ⟨rfl, h2⟩
        | false => exact .inr ⟨rfl, by rw [← h2]; exact hval hb⟩
      rw [this]; rfl
    · rintro (hx | ⟨hx, _, hy⟩)
      · rw [h1] at hx; cases hx
      · exact hy (by rw [← h2]; exact hval hx)
theorem fold_still {s : B} {l : List PNode} {rules : List PRule} {st : List Bool} {T : PT} (h : ReadAs s l rules T) (hst : ∀ b ∈ st, b = true) (ho : ∀ (j : Nat) (n : PNode), l[j]? = some n → (cLook (ownClaims (ownOf n))).length ≤ 20 ∧ (pGet n.attrs styleName).1 = sPrint (cLook (ownClaims (ownOf n)))) : fFold s l rules st = .ok s := by
  unfold fFold
  rw [gone_nil hst]
  have : ownsEd l [] 0 l = .ok [] := ownsEd_none fun j n hn => by
    obtain ⟨h1, h2⟩ := ho j n hn
    have hx := style_as h (gone := []) (by simp) hn
    rw [Nat.zero_add, hx.fits, hx.text]
    exact ⟨by simpa [rcl] using h1, by simpa [rcl] using h2⟩
  rw [this]
  simp only [Ans.ok_then, List.map_nil, List.append_nil, sortEd, editsF, List.drop_zero]
  rw [if_neg (by have := h.len; omega)]
theorem fold_twice (F : FoldAs s t l m rules qs st T) (S : IsStays l rules st) {st' : List Bool} (S' : IsStays m qs st') : fFold t m qs st' = .ok t := by
  refine fold_still F.dst (fun b hb => ?_) fun j n' hn' => ?_
  · obtain ⟨j, hj⟩ := List.getElem?_of_mem hb
    exact (S'.iff j b hj).2 (all_stay F S (by rw [← S'.len]; exact (List.getElem?_eq_some_iff.1 hj).1))
  · have hj : j < l.length := by rw [F.rel.len]; exact (List.getElem?_eq_some_iff.1 hn').1
    have hn := List.getElem?_eq_getElem hj
    obtain ⟨h1, h2⟩ := F.look_own hn hn'
    rw [h1, look_ownLook]
    exact ⟨(F.style j _ hn).2, h2⟩
def noStyle (al : List (B × B)) : List (B × B) := al.filter fun a => !(a.1 == styleName)
theorem set_noStyle (al : List (B × B)) (t : B) : noStyle (setStyle al t) = noStyle al := by
  unfold noStyle setStyle
  split
  · split
    · rw [List.filter_filter]
      apply List.filter_congr
      intro a _
      cases a.1 == styleName <;> simp
    · induction al with
      | nil => rfl
      | cons a al ih =>
        have ih : ∀ al : List (B × B), (al.map fun a => if a.1 = styleName then (a.1, t) else a).filter (fun a => !(a.1 == styleName)) = al.filter fun a => !(a.1 == styleName) := by
          intro al
          induction al with
          | nil => rfl
          | cons a al ih =>
            simp only [List.map_cons, List.filter_cons, ih]
            by_cases ha : a.1 = styleName
            · simp [ha]
            · simp [ha]
        exact ih _
  · split
    · rfl
    · simp [List.filter_cons]
theorem fold_keeps (F : FoldAs s t l m rules qs st T) {k : Nat} {n n' : PNode} (hn : l[k]? = some n) (hn' : m[k]? = some n') : n'.name = n.name ∧ n'.parent = n.parent ∧ noStyle (n'.attrs.map pr) = noStyle (n.attrs.map pr) := by
  obtain ⟨m', hm', hr⟩ := F.rel.get hn
  rw [hn'] at hm'
  cases hm'
  exact ⟨hr.name, hr.parent, by rw [hr.attrs, set_noStyle]⟩
theorem fold_nothing {s : B} {l : List PNode} {rules : List PRule} {st : List Bool} {T : PT} (h : ReadAs s l rules T) (S : IsStays l rules st) (hm : ∀ r ∈ rules, r.media ≠ []) (ha : ∀ n ∈ l, ∀ a ∈ n.attrs, a.name ≠ styleName) : fFold s l rules st = .ok s := by
  refine fold_still h (fun b hb => ?_) fun j n hn => ?_
  · obtain ⟨i, hi⟩ := List.getElem?_of_mem hb
    have hil : i < rules.length := by rw [← S.len]; exact (List.getElem?_eq_some_iff.1 hi).1
    exact (S.iff i b hi).2 (.media (List.getElem?_eq_getElem hil) (hm _ (List.getElem_mem hil)))
  · have hno : pGet n.attrs styleName = ([], false) := by
      unfold pGet
      have : n.attrs.find? (fun a => a.name == styleName) = none := by
        rw [List.find?_eq_none]
        intro a hm
        simpa using ha n (List.mem_of_getElem? hn) a hm
      rw [this]
    have : ownOf n = [] := by unfold ownOf ownDecls; rw [hno]; rfl
    rw [this, hno]
    exact ⟨by decide, rfl⟩
theorem fold_left (F : FoldAs s t l m rules qs st T) : qs.length = (keepP (goes st) 0 rules).length ∧ qs.map stripR = (keepP (goes st) 0 rules).map stripR := by
  have := F.kept
  rw [keepP_map] at this
  refine ⟨?_, this⟩
  have := congrArg List.length this
  simpa using this
end
end Go.Proofs.YtplbdlgmjehckacGreatDoor
namespace Go.Proofs.YtplbdlgmjehckacGreatDoor
set_option linter.unusedVariables false
set_option linter.unusedSimpArgs false
theorem ownsEd_of {l : List PNode} {gone : List PRule} : ∀ {ns : List PNode} {k : Nat}, (∀ j n, ns[j]? = some n → (styleText l (k + j) gone).2 = true ∧ ¬ ((pGet n.attrs styleName).2 = false ∧ n.attrs.length = 8 ∧ (styleText l (k + j) gone).1 ≠ [])) →
    ownsEd l gone k ns = .ok (ownL (fun k => (styleText l k gone).1) k ns)
  | [], k, h => rfl
  | n :: ns, k, h => by
    obtain ⟨h1, h2⟩ := h 0 n rfl
    rw [Nat.add_zero] at h1 h2
    have ih := ownsEd_of (l := l) (gone := gone) (ns := ns) (k := k + 1) fun j m hm => by
      have := h (j + 1) m (by simpa using hm)
      rwa [show k + (j + 1) = k + 1 + j from by omega] at this
    simp only [ownsEd, ownL]
    rw [if_neg, ih]
    · rfl
    · rintro (hx | hx)
      · rw [h1] at hx; cases hx
      · exact h2 hx
theorem as_fold {s : B} {l : List PNode} {rules : List PRule} {st : List Bool} {T : PT} (h : ReadAs s l rules T) (hs : st.length = rules.length)
    (hc : ∀ j n, l[j]? = some n → (styleText l j (goneR rules st)).2 = true ∧ n.attrs.length < 8)
    (hl : (textP (foldP (fun k => (styleText l k (goneR rules st)).1) (goes st) 0 0 T)).length ≤ 6000) :
    fFold s l rules st = .ok (textP (foldP (fun k => (styleText l k (goneR rules st)).1) (goes st) 0 0 T)) := by
  have ht : sortEd ((goneR rules st).map goneEd ++ ownL (fun k => (styleText l k (goneR rules st)).1) 0 l) = treeEd (fun k => (styleText l k (goneR rules st)).1) (goes st) 0 0 0 T := by
    refine sortEd_eq (tree_rise _ _ T 0 0 0 h.ok).1 ?_
    refine (tree_perm _ _ T 0 0 0).trans ?_
    rw [← gone_tree _ T 0 0 h.ok, ← h.rulesEq, ← gone_keep hs, ← own_tree _ T 1 0 0 (-1) h.wf, ← h.nodes]
  have hp := page_makes (fun k => (styleText l k (goneR rules st)).1) (goes st) h.wf h.ok
  rw [← h.text] at hp
  unfold fFold
  rw [ownsEd_of (fun j n hn => by
    obtain ⟨h1, h2⟩ := hc j n hn
    rw [Nat.zero_add]
    exact ⟨h1, fun hx => by omega⟩), Ans.ok_then, ht, hp.2, if_neg (by omega)]
structure TopW (w : B) : Prop where
  word : WordOk w
  len : w.length ≤ 20
theorem TopW.val {w : B} (h : TopW w) : ValOk w := word_valOk h.word (by have := h.len; omega)
theorem word_ne32 {w : B} (h : WordOk w) : ∀ c ∈ w, c ≠ 32 := by
  rintro c hc rfl
  have := h.2 _ hc
  cases this
theorem word_head {w : B} (h : WordOk w) : ∃ c t, w = c :: t ∧ isWord c = true := by
  obtain ⟨hne, hall⟩ := h
  cases w with
  | nil => exact absurd rfl hne
  | cons c t => exact ⟨c, t, rfl, hall c (by simp)⟩
theorem decl_said {nm w g r m : B} {st : Bool} {n : Nat} (h1 : NameOk nm) (hw : WordOk w) (hl : w.length ≤ 60) (hg : IsGap g) (hr : stops r = true) (hrw : r.head?.any isWord = false) (hgw : (g ++ r).head?.any isWord = false) (hne : g ++ r ≠ [] ∨ True)
    (hs : ∀ b, sStrong r b = .ok (st, m, b + n)) (b : Nat) : sDecl (nm ++ ([58] ++ (w ++ (g ++ r)))) b = .ok (⟨nm, w, st⟩, m, b + (nm.length + (1 + (w.length + (g.length + n))))) := by
  obtain ⟨c, t, hc, hcw⟩ := word_head hw
  have hst : stops (w ++ (g ++ r)) = true := by rw [hc]; exact word_stops _ hcw
  unfold sDecl
  rw [then_of (name_read h1 (by rfl) b)]
  simp only
  rw [then_of (gap_stop _ (by exact stops_cons (c := 58) _ (by decide)))]
  simp only
  rw [then_of (show pMust [58] ([58] ++ (w ++ (g ++ r))) (b + nm.length) = .ok (w ++ (g ++ r), b + nm.length + 1) from by unfold pMust; rw [if_pos (prefix_pos _ _)]; rfl)]
  simp only
  rw [then_of (gap_stop _ hst)]
  simp only
  have hv : sVal (w ++ (g ++ r)) (b + nm.length + 1) = .ok (w, r, b + nm.length + 1 + w.length + g.length) := by
    unfold sVal
    have := val_read [w] [] g r ((w ++ (g ++ r)).length + 1) (b + nm.length + 1) (by simp) (by simpa using hw) (by simpa [joinW] using hl) hg hr hrw hgw (by rw [hc]; simp)
    simpa [joinW] using this
  rw [then_of hv]
  simp only
  rw [then_of (hs _)]
  simp only
  congr 3
  omega
theorem strong_no {r : B} (h : ([33] : B).isPrefixOf r = false) (b : Nat) : sStrong r b = .ok (false, r, b + 0) := by unfold sStrong; rw [h]; rfl
theorem strong_yes {m : B} (h : stops m = true) (b : Nat) : sStrong ([33] ++ (importantWord ++ m)) b = .ok (true, m, b + 10) := by
  unfold sStrong
  rw [if_pos (prefix_pos _ _)]
  have e : ([33] ++ (importantWord ++ m)).drop 1 = importantWord ++ m := rfl
  rw [e, then_of (show pMust importantWord (importantWord ++ m) (b + 1) = .ok (m, b + 1 + 9) from by unfold pMust; rw [if_pos (prefix_pos _ _)]; simp [importantWord])]
  simp only
  rw [then_of (gap_stop _ h)]
def declStop (m : B) : Prop := m = [] ∨ (∃ t, m = 59 :: t) ∨ ∃ t, m = 125 :: t
theorem declStop.facts {m : B} (h : declStop m) : stops m = true ∧ m.head?.any isWord = false ∧ ([33] : B).isPrefixOf m = false := by
  rcases h with rfl | ⟨t, rfl⟩ | ⟨t, rfl⟩
  · exact ⟨rfl, rfl, rfl⟩
  · exact ⟨stops_cons _ (by decide), rfl, rfl⟩
  · exact ⟨stops_cons _ (by decide), rfl, rfl⟩
structure DeclT (t : B) (d : PDecl) : Prop where
  read : ∀ m, declStop m → ∀ b, sDecl (t ++ m) b = .ok (d, m, b + t.length)
  head : ∃ c u, t = c :: u ∧ isLow c = true
def declText (nm w : B) : B := nm ++ ([58] ++ w)
def bang : B := [33] ++ importantWord
theorem declT_plain {nm w : B} (h1 : NameOk nm) (hw : TopW w) : DeclT (declText nm w) ⟨nm, w, false⟩ := by
  refine ⟨fun m hm b => ?_, ?_⟩
  · obtain ⟨q1, q2, q3⟩ := hm.facts
    have := decl_said (g := []) (r := m) (m := m) (st := false) (n := 0) h1 hw.word (by have := hw.len; omega) .nil q1 q2 q2 (.inr trivial) (strong_no q3) b
    simp only [List.nil_append, List.length_nil] at this
    have e : declText nm w ++ m = nm ++ ([58] ++ (w ++ m)) := by simp [declText]
    rw [e, this]
    simp [declText]; omega
  · obtain ⟨⟨c, t, rfl, hc⟩, _⟩ := name_all h1
    exact ⟨c, _, rfl, hc⟩
theorem declT_strong {nm w g : B} (h1 : NameOk nm) (hw : TopW w) (hg : g = [] ∨ g = [32]) : DeclT (declText nm w ++ (g ++ bang)) ⟨nm, w, true⟩ := by
  refine ⟨fun m hm b => ?_, ?_⟩
  · obtain ⟨q1, q2, q3⟩ := hm.facts
    have hgg : IsGap g := by
      rcases hg with rfl | rfl
      · exact .nil
      · exact .one (.inl rfl) .nil
    have := decl_said (g := g) (r := [33] ++ (importantWord ++ m)) (m := m) (st := true) (n := 10) h1 hw.word (by have := hw.len; omega) hgg (stops_cons _ (by decide)) (by rfl) (by rcases hg with rfl | rfl <;> rfl) (.inr trivial) (strong_yes q1) b
    have e : declText nm w ++ (g ++ bang) ++ m = nm ++ ([58] ++ (w ++ (g ++ ([33] ++ (importantWord ++ m))))) := by simp [declText, bang]
    rw [e, this]
    simp [declText, bang, importantWord]
    omega
  · obtain ⟨⟨c, t, rfl, hc⟩, _⟩ := name_all h1
    exact ⟨c, _, rfl, hc⟩
theorem DeclT.ready {t : B} {d : PDecl} (h : DeclT t d) (m : B) : stops (t ++ m) = true ∧ ((t ++ m).isEmpty || ([125] : B).isPrefixOf (t ++ m)) = false := by
  obtain ⟨c, u, rfl, hc⟩ := h.head
  exact low_ready _ hc
theorem decls_one {t : B} {d : PDecl} (h : DeclT t d) {m : B} (hm : m = [] ∨ ∃ u, m = 125 :: u) (b : Nat) : sDecls (t ++ m) b = .ok ([d], m, b + t.length) := by
  unfold sDecls
  rw [then_of (gap_stop _ (h.ready m).1)]
  simp only [sDeclsL]
  rw [(h.ready m).2, if_neg (by simp), if_neg (by simp), then_of (h.read m (hm.imp id .inr) b)]
  simp only
  have : ([59] : B).isPrefixOf m = false := by
    rcases hm with rfl | ⟨u, rfl⟩ <;> rfl
  rw [this]; rfl
theorem own_one {t : B} {d : PDecl} (h : DeclT t d) (hl : t.length ≤ 4000) : sDeclsOf t = .ok [d] := by
  unfold sDeclsOf
  have := decls_one h (m := []) (.inl rfl) 0
  rw [List.append_nil] at this
  rw [if_neg (by omega), then_of this]
  rfl
structure SelT (t : B) (ss : List PSel) : Prop where
  read : ∀ (m : B) (b : Nat), sSelsL ((t ++ (123 :: m)).length + 1) [] (t ++ (123 :: m)) b = .ok (ss, 123 :: m, b + t.length)
  head : ∃ c u, t = c :: u ∧ headCh c = true
def ruleText (s d : B) : B := s ++ ([123] ++ (d ++ [125]))
theorem ruleT_of {s t : B} {ss : List PSel} {d : PDecl} (hs : SelT s ss) (hd : DeclT t d) : RuleT (ruleText s t) ss [d] := by
  refine ⟨fun md m b => ?_, ?_⟩
  · unfold sRule
    have e : ruleText s t ++ m = s ++ (123 :: (t ++ (125 :: m))) := by simp [ruleText]
    rw [e, then_of (hs.read _ _)]
    simp only
    rw [then_of (show pMust [123] (123 :: (t ++ (125 :: m))) (b + s.length) = .ok (t ++ (125 :: m), b + s.length + 1) from rfl)]
    simp only
    rw [then_of (decls_one hd (.inr ⟨_, rfl⟩) _)]
    simp only
    rw [then_of (show pMust [125] (125 :: m) (b + s.length + 1 + t.length) = .ok (m, b + s.length + 1 + t.length + 1) from rfl)]
    simp only
    have : b + s.length + 1 + t.length + 1 = b + (ruleText s t).length := by simp [ruleText]; omega
    rw [this]
  · obtain ⟨c, u, rfl, hc⟩ := hs.head
    exact ⟨c, _, rfl, hc⟩
def tyP (c : UInt8) : PSel := [⟨0, [⟨1, [c], []⟩]⟩]
theorem selT_of {t : B} {ss : List PSel} (h : sSelsL (t.length + 2) [] (t ++ [123]) 0 = .ok (ss, [123], t.length)) (hh : ∃ c u, t = c :: u ∧ headCh c = true) : SelT t ss := by
  obtain ⟨t', h1, h2, h3, h4⟩ := selsL_loc _ _ _ _ _ _ _ h
  obtain rfl : t = t' := List.append_cancel_right h1
  exact ⟨fun m b => h4 _ _ b (by simp; omega) (Same.guard (by decide) _ _), hh⟩
theorem selT_p : SelT [112] [tyP 112] := selT_of (by decide +kernel) ⟨112, [], rfl, by decide⟩
theorem selT_b : SelT [98] [tyP 98] := selT_of (by decide +kernel) ⟨98, [], rfl, by decide⟩
theorem selT_k : SelT [46, 107] [[⟨0, [⟨2, [107], []⟩]⟩]] := selT_of (by decide +kernel) ⟨46, _, rfl, by decide⟩
theorem selT_q : SelT [35, 113] [[⟨0, [⟨3, [113], []⟩]⟩]] := selT_of (by decide +kernel) ⟨35, _, rfl, by decide⟩
theorem selT_zp : SelT [35, 122, 44, 112] [[⟨0, [⟨3, [122], []⟩]⟩], tyP 112] := selT_of (by decide +kernel) ⟨35, _, rfl, by decide⟩
def wideW : B := [119, 105, 100, 101]
def wideHead : B := [32, 119, 105, 100, 101, 123]
theorem headT_wide : HeadT wideW wideHead := by
  obtain ⟨t, h1, h2, h3, h4⟩ := mediaHead_loc (show sMediaHead wideHead 0 = .ok (wideW, [], 6) by decide +kernel)
  rw [List.append_nil] at h1
  subst h1
  exact ⟨h4, h3⟩
theorem sheet_in {xs : List In1} (hw : ∀ x ∈ xs, x.wf) (hl : (textIn xs).length ≤ 4000) (hr : (rulesIn [] 0 xs).length ≤ 60) : sParse (textIn xs) = .ok (rulesIn [] 0 xs) := by
  have := parse_read (xs := xs.map .plain) (by
    intro x hx
    obtain ⟨y, hy, rfl⟩ := List.mem_map.1 hx
    exact hw y hy) (by rw [textIt_plains]; exact hl) (by rw [rulesIt_plains]; exact hr)
  rwa [textIt_plains, rulesIt_plains] at this
theorem top_fold {s : B} {l : List PNode} {rules : List PRule} {st : List Bool} {T : PT} (R : ReadAs s l rules T) (hst : st.length = rules.length)
    (hx : ∀ (j : Nat) (n : PNode), l[j]? = some n → (cLook (rcl l (j : Int) [] (goneR rules st) ++ ownClaims (ownOf n))).length ≤ 20 ∧ n.attrs.length < 8)
    (hlen : ∀ tx : Nat → B, (∀ (j : Nat) (n : PNode), l[j]? = some n → tx j = sPrint (cLook (rcl l (j : Int) [] (goneR rules st) ++ ownClaims (ownOf n)))) → (textP (foldP tx (goes st) 0 0 T)).length ≤ 6000) :
    ∃ tx : Nat → B, (∀ (j : Nat) (n : PNode), l[j]? = some n → tx j = sPrint (cLook (rcl l (j : Int) [] (goneR rules st) ++ ownClaims (ownOf n)))) ∧ fFold s l rules st = .ok (textP (foldP tx (goes st) 0 0 T)) := by
  have hgone : ∀ r ∈ goneR rules st, r ∈ rules := fun r hr => by rw [gone_keep hst] at hr; exact mem_keepP _ hr
  have htx : ∀ (j : Nat) (n : PNode), l[j]? = some n → (styleText l j (goneR rules st)).1 = sPrint (cLook (rcl l (j : Int) [] (goneR rules st) ++ ownClaims (ownOf n))) := fun j n hn => (style_as R hgone hn).text
  refine ⟨fun k => (styleText l k (goneR rules st)).1, htx, as_fold R hst (fun j n hn => ?_) (hlen _ htx)⟩
  obtain ⟨h1, h2⟩ := hx j n hn
  exact ⟨by rw [(style_as R hgone hn).fits]; simpa using h1, h2⟩
theorem top_style {s t : B} {l : List PNode} {rules : List PRule} {st : List Bool} {T : PT} (R : ReadAs s l rules T) (hst : st.length = rules.length) (hf : fFold s l rules st = .ok t) :
    ∃ m, pParse t = .ok m ∧ m.length = l.length ∧ ∀ (k : Nat) (n : PNode), l[k]? = some n → ∃ n', m[k]? = some n' ∧ (pGet n'.attrs styleName).1 = sPrint (cLook (rcl l (k : Int) [] (goneR rules st) ++ ownClaims (ownOf n))) := by
  obtain ⟨m, qs, F⟩ := fold_reads R hst hf
  have hp : pParse t = .ok m := by
    have := page_read F.dst.wf (by rw [← F.dst.text]; exact F.dst.len) F.dst.few
    rwa [← F.dst.text, ← F.dst.nodes] at this
  refine ⟨m, hp, F.rel.len.symm, fun k n hn => ?_⟩
  obtain ⟨n', h1, h2⟩ := F.rel.get hn
  refine ⟨n', h1, ?_⟩
  rw [pGet_pr, h2.attrs, getP_set_style, Nat.zero_add, (F.style k n hn).1.text]
end Go.Proofs.YtplbdlgmjehckacGreatDoor
