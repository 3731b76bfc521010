/-
 Lemmas for the claims of this seat: the program's functions walked, and plain laws. In this order: FoLaws TpTools TpLaws FoAlive.
-/
import Derived.Test.YtplbdlgmjehckabGreatDoorPk7
namespace Go.Proofs.YtplbdlgmjehckabGreatDoor
set_option linter.unusedVariables false
set_option linter.unusedSimpArgs false
theorem mem_keepP_iff {α : Type} (p : Nat → Bool) {x : α} : ∀ {xs : List α} {i : Nat}, x ∈ keepP p i xs ↔ ∃ j, xs[j]? = some x ∧ p (i + j) = false
 | [], i => by simp [keepP]
 | y :: ys, i => by
  have ih := mem_keepP_iff p (x := x) (xs := ys) (i := i + 1)
  simp only [keepP]
  constructor
  ·intro h
   split at h
   ·obtain ⟨j, h1, h2⟩ := ih.1 h
    exact ⟨j + 1, by simpa using h1, by rw [show i + (j + 1) = i + 1 + j from by omega]; exact h2⟩
   ·rename_i hp
    rcases List.mem_cons.1 h with rfl | h
    ·exact ⟨0, rfl, by simpa using hp⟩
    ·obtain ⟨j, h1, h2⟩ := ih.1 h
     exact ⟨j + 1, by simpa using h1, by rw [show i + (j + 1) = i + 1 + j from by omega]; exact h2⟩
  ·rintro ⟨j, h1, h2⟩
   cases j with
   | zero =>
    simp only [List.getElem?_cons_zero, Option.some.injEq] at h1
    subst h1
    rw [Nat.add_zero] at h2
    rw [if_neg (by rw [h2]; simp)]
    simp
   | succ j =>
    have := ih.2 ⟨j, by simpa using h1, by rw [show i + 1 + j = i + (j + 1) from by omega]; exact h2⟩
    split
    ·exact this
    ·exact List.mem_cons_of_mem _ this
theorem goes_iff {l : List PNode} {rules : List PRule} {st : List Bool} (h : IsStays l rules st) {i : Nat} (hi : i < rules.length) : goes st i = false ↔ Stay l rules i := by
 have h1 := List.getElem?_eq_getElem (show i < st.length by rw [h.len]; exact hi)
 have h2 := h.iff _ _ h1
 unfold goes
 rw [h1, ← h2]
 cases st[i]'(by rw [h.len]; exact hi) <;> simp
theorem apart {l : List PNode} {rules : List PRule} {st : List Bool} (h : IsStays l rules st) {r q : PRule} (hr : r ∈ keepP (goes st) 0 rules) (hq : q ∈ goneR rules st) {p : Nat × B} (h1 : p ∈ touches l r) (h2 : p ∈ touches l q) : False := by
 rw [gone_keep h.len] at hq
 obtain ⟨i, hi, gi⟩ := (mem_keepP_iff _).1 hr
 obtain ⟨j, hj, gj⟩ := (mem_keepP_iff _).1 hq
 rw [Nat.zero_add] at gi gj
 have hs := (goes_iff h (List.getElem?_eq_some_iff.1 hi).1).1 gi
 have hs' : Stay l rules j := .meet hj hi hs h2 h1
 have := (goes_iff h (List.getElem?_eq_some_iff.1 hj).1).2 hs'
 rw [this] at gj; cases gj
def cl (l : List PNode) (k : Int) (media : List B) (r : PRule) : List PClaim := if (mBest l k r.sels).2 && counts r media then (plainOf r).map (fun x => ⟨x, false, (mBest l k r.sels).1⟩) else []
theorem rcl_cons (l : List PNode) (k : Int) (media : List B) (r : PRule) (rs : List PRule) : rcl l k media (r :: rs) = cl l k media r ++ rcl l k media rs := rfl
theorem rcl_strip (l : List PNode) (k : Int) (media : List B) (rs : List PRule) : rcl l k media (rs.map stripR) = rcl l k media rs := by
 induction rs with
 | nil => rfl
 | cons r rs ih => rw [List.map_cons, rcl_cons, rcl_cons, ih]; rfl
section
variable {s t : B} {l m : List PNode} {rules qs : List PRule} {st : List Bool} {T : PT}
theorem stay_media {i : Nat} (h : Stay l rules i) : ∃ r ∈ rules, r.media ≠ [] := by
 induction h with
 | media hi hm => exact ⟨_, List.mem_of_getElem? hi, hm⟩
 | meet _ _ _ _ _ ih => exact ih
def noStyle (al : List (B × B)) : List (B × B) := al.filter fun a => !(a.1 == styleName)
end
theorem ownsEd_of {l : List PNode} {gone : List PRule} : ∀ {ns : List PNode} {k : Nat}, (∀ j n, ns[j]? = some n → (styleText l (k + j) gone).2 = true ∧ ¬ ((pGet n.attrs styleName).2 = false ∧ n.attrs.length = 8 ∧ (styleText l (k + j) gone).1 ≠ [])) →
  ownsEd l gone k ns = .ok (ownL (fun k => (styleText l k gone).1) k ns)
 | [], k, h => rfl
 | n :: ns, k, h => by
  obtain ⟨h1, h2⟩ := h 0 n rfl
  rw [Nat.add_zero] at h1 h2
  have ih := ownsEd_of (l := l) (gone := gone) (ns := ns) (k := k + 1) fun j m hm => by
   have := h (j + 1) m (by simpa using hm)
   rwa [show k + (j + 1) = k + 1 + j from by omega] at this
  simp only [ownsEd, ownL]
  rw [if_neg, ih]
  ·rfl
  ·rintro (hx | hx)
   ·rw [h1] at hx; cases hx
   ·exact h2 hx
theorem as_fold {s : B} {l : List PNode} {rules : List PRule} {st : List Bool} {T : PT} (h : ReadAs s l rules T) (hs : st.length = rules.length)
  (hc : ∀ j n, l[j]? = some n → (styleText l j (goneR rules st)).2 = true ∧ n.attrs.length < 8)
  (hl : (textP (foldP (fun k => (styleText l k (goneR rules st)).1) (goes st) 0 0 T)).length ≤ 6000) :
  fFold s l rules st = .ok (textP (foldP (fun k => (styleText l k (goneR rules st)).1) (goes st) 0 0 T)) := by
 have ht : sortEd ((goneR rules st).map goneEd ++ ownL (fun k => (styleText l k (goneR rules st)).1) 0 l) = treeEd (fun k => (styleText l k (goneR rules st)).1) (goes st) 0 0 0 T := by
  refine sortEd_eq (tree_rise _ _ T 0 0 0 h.ok).1 ?_
  refine (tree_perm _ _ T 0 0 0).trans ?_
  rw [← gone_tree _ T 0 0 h.ok, ← h.rulesEq, ← gone_keep hs, ← own_tree _ T 1 0 0 (-1) h.wf, ← h.nodes]
 have hp := page_makes (fun k => (styleText l k (goneR rules st)).1) (goes st) h.wf h.ok
 rw [← h.text] at hp
 unfold fFold
 rw [ownsEd_of (fun j n hn => by
  obtain ⟨h1, h2⟩ := hc j n hn
  rw [Nat.zero_add]
  exact ⟨h1, fun hx => by omega⟩), Ans.ok_then, ht, hp.2, if_neg (by omega)]
structure TopW (w : B) : Prop where
 word : WordOk w
 len : w.length ≤ 20
theorem TopW.val {w : B} (h : TopW w) : ValOk w := word_valOk h.word (by have := h.len; omega)
theorem word_head {w : B} (h : WordOk w) : ∃ c t, w = c :: t ∧ isWord c = true := by
 obtain ⟨hne, hall⟩ := h
 cases w with
 | nil => exact absurd rfl hne
 | cons c t => exact ⟨c, t, rfl, hall c (by simp)⟩
theorem decl_said {nm w g r m : B} {st : Bool} {n : Nat} (h1 : NameOk nm) (hw : WordOk w) (hl : w.length ≤ 60) (hg : IsGap g) (hr : stops r = true) (hrw : r.head?.any isWord = false) (hgw : (g ++ r).head?.any isWord = false) (hne : g ++ r ≠ [] ∨ True)
  (hs : ∀ b, sStrong r b = .ok (st, m, b + n)) (b : Nat) : sDecl (nm ++ ([58] ++ (w ++ (g ++ r)))) b = .ok (⟨nm, w, st⟩, m, b + (nm.length + (1 + (w.length + (g.length + n))))) := by
 obtain ⟨c, t, hc, hcw⟩ := word_head hw
 have hst : stops (w ++ (g ++ r)) = true := by rw [hc]; exact word_stops _ hcw
 unfold sDecl
 rw [then_of (name_read h1 (by rfl) b)]
 simp only
 rw [then_of (gap_stop _ (by exact stops_cons (c := 58) _ (by decide)))]
 simp only
 rw [then_of (show pMust [58] ([58] ++ (w ++ (g ++ r))) (b + nm.length) = .ok (w ++ (g ++ r), b + nm.length + 1) from by unfold pMust; rw [if_pos (prefix_pos _ _)]; rfl)]
 simp only
 rw [then_of (gap_stop _ hst)]
 simp only
 have hv : sVal (w ++ (g ++ r)) (b + nm.length + 1) = .ok (w, r, b + nm.length + 1 + w.length + g.length) := by
  unfold sVal
  have := val_read [w] [] g r ((w ++ (g ++ r)).length + 1) (b + nm.length + 1) (by simp) (by simpa using hw) (by simpa [joinW] using hl) hg hr hrw hgw (by rw [hc]; simp)
  simpa [joinW] using this
 rw [then_of hv]
 simp only
 rw [then_of (hs _)]
 simp only
 congr 3
 omega
theorem strong_no {r : B} (h : ([33] : B).isPrefixOf r = false) (b : Nat) : sStrong r b = .ok (false, r, b + 0) := by unfold sStrong; rw [h]; rfl
theorem strong_yes {m : B} (h : stops m = true) (b : Nat) : sStrong ([33] ++ (importantWord ++ m)) b = .ok (true, m, b + 10) := by
 unfold sStrong
 rw [if_pos (prefix_pos _ _)]
 have e : ([33] ++ (importantWord ++ m)).drop 1 = importantWord ++ m := rfl
 rw [e, then_of (show pMust importantWord (importantWord ++ m) (b + 1) = .ok (m, b + 1 + 9) from by unfold pMust; rw [if_pos (prefix_pos _ _)]; simp [importantWord])]
 simp only
 rw [then_of (gap_stop _ h)]
def declStop (m : B) : Prop := m = [] ∨ (∃ t, m = 59 :: t) ∨ ∃ t, m = 125 :: t
theorem declStop.facts {m : B} (h : declStop m) : stops m = true ∧ m.head?.any isWord = false ∧ ([33] : B).isPrefixOf m = false := by
 rcases h with rfl | ⟨t, rfl⟩ | ⟨t, rfl⟩
 ·exact ⟨rfl, rfl, rfl⟩
 ·exact ⟨stops_cons _ (by decide), rfl, rfl⟩
 ·exact ⟨stops_cons _ (by decide), rfl, rfl⟩
structure DeclT (t : B) (d : PDecl) : Prop where
 read : ∀ m, declStop m → ∀ b, sDecl (t ++ m) b = .ok (d, m, b + t.length)
 head : ∃ c u, t = c :: u ∧ isLow c = true
def declText (nm w : B) : B := nm ++ ([58] ++ w)
def bang : B := [33] ++ importantWord
theorem declT_plain {nm w : B} (h1 : NameOk nm) (hw : TopW w) : DeclT (declText nm w) ⟨nm, w, false⟩ := by
 refine ⟨fun m hm b => ?_, ?_⟩
 ·obtain ⟨q1, q2, q3⟩ := hm.facts
  have := decl_said (g := []) (r := m) (m := m) (st := false) (n := 0) h1 hw.word (by have := hw.len; omega) .nil q1 q2 q2 (.inr trivial) (strong_no q3) b
  simp only [List.nil_append, List.length_nil] at this
  have e : declText nm w ++ m = nm ++ ([58] ++ (w ++ m)) := by simp [declText]
  rw [e, this]
  simp [declText]; omega
 ·obtain ⟨⟨c, t, rfl, hc⟩, _⟩ := name_all h1
  exact ⟨c, _, rfl, hc⟩
theorem declT_strong {nm w g : B} (h1 : NameOk nm) (hw : TopW w) (hg : g = [] ∨ g = [32]) : DeclT (declText nm w ++ (g ++ bang)) ⟨nm, w, true⟩ := by
 refine ⟨fun m hm b => ?_, ?_⟩
 ·obtain ⟨q1, q2, q3⟩ := hm.facts
  have hgg : IsGap g := by
   rcases hg with rfl | rfl
   ·exact .nil
   ·exact .one (.inl rfl) .nil
  have := decl_said (g := g) (r := [33] ++ (importantWord ++ m)) (m := m) (st := true) (n := 10) h1 hw.word (by have := hw.len; omega) hgg (stops_cons _ (by decide)) (by rfl) (by rcases hg with rfl | rfl <;> rfl) (.inr trivial) (strong_yes q1) b
  have e : declText nm w ++ (g ++ bang) ++ m = nm ++ ([58] ++ (w ++ (g ++ ([33] ++ (importantWord ++ m))))) := by simp [declText, bang]
  rw [e, this]
  simp [declText, bang, importantWord]
  omega
 ·obtain ⟨⟨c, t, rfl, hc⟩, _⟩ := name_all h1
  exact ⟨c, _, rfl, hc⟩
theorem DeclT.ready {t : B} {d : PDecl} (h : DeclT t d) (m : B) : stops (t ++ m) = true ∧ ((t ++ m).isEmpty || ([125] : B).isPrefixOf (t ++ m)) = false := by
 obtain ⟨c, u, rfl, hc⟩ := h.head
 exact low_ready _ hc
theorem decls_one {t : B} {d : PDecl} (h : DeclT t d) {m : B} (hm : m = [] ∨ ∃ u, m = 125 :: u) (b : Nat) : sDecls (t ++ m) b = .ok ([d], m, b + t.length) := by
 unfold sDecls
 rw [then_of (gap_stop _ (h.ready m).1)]
 simp only [sDeclsL]
 rw [(h.ready m).2, if_neg (by simp), if_neg (by simp), then_of (h.read m (hm.imp id .inr) b)]
 simp only
 have : ([59] : B).isPrefixOf m = false := by
  rcases hm with rfl | ⟨u, rfl⟩ <;> rfl
 rw [this]; rfl
theorem own_one {t : B} {d : PDecl} (h : DeclT t d) (hl : t.length ≤ 4000) : sDeclsOf t = .ok [d] := by
 unfold sDeclsOf
 have := decls_one h (m := []) (.inl rfl) 0
 rw [List.append_nil] at this
 rw [if_neg (by omega), then_of this]
 rfl
structure SelT (t : B) (ss : List PSel) : Prop where
 read : ∀ (m : B) (b : Nat), sSelsL ((t ++ (123 :: m)).length + 1) [] (t ++ (123 :: m)) b = .ok (ss, 123 :: m, b + t.length)
 head : ∃ c u, t = c :: u ∧ headCh c = true
def ruleText (s d : B) : B := s ++ ([123] ++ (d ++ [125]))
theorem ruleT_of {s t : B} {ss : List PSel} {d : PDecl} (hs : SelT s ss) (hd : DeclT t d) : RuleT (ruleText s t) ss [d] := by
 refine ⟨fun md m b => ?_, ?_⟩
 ·unfold sRule
  have e : ruleText s t ++ m = s ++ (123 :: (t ++ (125 :: m))) := by simp [ruleText]
  rw [e, then_of (hs.read _ _)]
  simp only
  rw [then_of (show pMust [123] (123 :: (t ++ (125 :: m))) (b + s.length) = .ok (t ++ (125 :: m), b + s.length + 1) from rfl)]
  simp only
  rw [then_of (decls_one hd (.inr ⟨_, rfl⟩) _)]
  simp only
  rw [then_of (show pMust [125] (125 :: m) (b + s.length + 1 + t.length) = .ok (m, b + s.length + 1 + t.length + 1) from rfl)]
  simp only
  have : b + s.length + 1 + t.length + 1 = b + (ruleText s t).length := by simp [ruleText]; omega
  rw [this]
 ·obtain ⟨c, u, rfl, hc⟩ := hs.head
  exact ⟨c, _, rfl, hc⟩
def tyP (c : UInt8) : PSel := [⟨0, [⟨1, [c], []⟩]⟩]
theorem selT_of {t : B} {ss : List PSel} (h : sSelsL (t.length + 2) [] (t ++ [123]) 0 = .ok (ss, [123], t.length)) (hh : ∃ c u, t = c :: u ∧ headCh c = true) : SelT t ss := by
 obtain ⟨t', h1, h2, h3, h4⟩ := selsL_loc _ _ _ _ _ _ _ h
 obtain rfl : t = t' := List.append_cancel_right h1
 exact ⟨fun m b => h4 _ _ b (by simp; omega) (Same.guard (by decide) _ _), hh⟩
theorem selT_p : SelT [112] [tyP 112] := selT_of (by decide +kernel) ⟨112, [], rfl, by decide⟩
theorem selT_k : SelT [46, 107] [[⟨0, [⟨2, [107], []⟩]⟩]] := selT_of (by decide +kernel) ⟨46, _, rfl, by decide⟩
theorem selT_q : SelT [35, 113] [[⟨0, [⟨3, [113], []⟩]⟩]] := selT_of (by decide +kernel) ⟨35, _, rfl, by decide⟩
theorem selT_zp : SelT [35, 122, 44, 112] [[⟨0, [⟨3, [122], []⟩]⟩], tyP 112] := selT_of (by decide +kernel) ⟨35, _, rfl, by decide⟩
def wideW : B := [119, 105, 100, 101]
def wideHead : B := [32, 119, 105, 100, 101, 123]
theorem sheet_in {xs : List In1} (hw : ∀ x ∈ xs, x.wf) (hl : (textIn xs).length ≤ 4000) (hr : (rulesIn [] 0 xs).length ≤ 60) : sParse (textIn xs) = .ok (rulesIn [] 0 xs) := by
 have := parse_read (xs := xs.map .plain) (by
  intro x hx
  obtain ⟨y, hy, rfl⟩ := List.mem_map.1 hx
  exact hw y hy) (by rw [textIt_plains]; exact hl) (by rw [rulesIt_plains]; exact hr)
 rwa [textIt_plains, rulesIt_plains] at this
theorem top_fold {s : B} {l : List PNode} {rules : List PRule} {st : List Bool} {T : PT} (R : ReadAs s l rules T) (hst : st.length = rules.length)
  (hx : ∀ (j : Nat) (n : PNode), l[j]? = some n → (cLook (rcl l (j : Int) [] (goneR rules st) ++ ownClaims (ownOf n))).length ≤ 20 ∧ n.attrs.length < 8)
  (hlen : ∀ tx : Nat → B, (∀ (j : Nat) (n : PNode), l[j]? = some n → tx j = sPrint (cLook (rcl l (j : Int) [] (goneR rules st) ++ ownClaims (ownOf n)))) → (textP (foldP tx (goes st) 0 0 T)).length ≤ 6000) :
  ∃ tx : Nat → B, (∀ (j : Nat) (n : PNode), l[j]? = some n → tx j = sPrint (cLook (rcl l (j : Int) [] (goneR rules st) ++ ownClaims (ownOf n)))) ∧ fFold s l rules st = .ok (textP (foldP tx (goes st) 0 0 T)) := by
 have hgone : ∀ r ∈ goneR rules st, r ∈ rules := fun r hr => by rw [gone_keep hst] at hr; exact mem_keepP _ hr
 have htx : ∀ (j : Nat) (n : PNode), l[j]? = some n → (styleText l j (goneR rules st)).1 = sPrint (cLook (rcl l (j : Int) [] (goneR rules st) ++ ownClaims (ownOf n))) := fun j n hn => (style_as R hgone hn).text
 refine ⟨fun k => (styleText l k (goneR rules st)).1, htx, as_fold R hst (fun j n hn => ?_) (hlen _ htx)⟩
 obtain ⟨h1, h2⟩ := hx j n hn
 exact ⟨by rw [(style_as R hgone hn).fits]; simpa using h1, h2⟩
theorem top_style {s t : B} {l : List PNode} {rules : List PRule} {st : List Bool} {T : PT} (R : ReadAs s l rules T) (hst : st.length = rules.length) (hf : fFold s l rules st = .ok t) :
  ∃ m, pParse t = .ok m ∧ m.length = l.length ∧ ∀ (k : Nat) (n : PNode), l[k]? = some n → ∃ n', m[k]? = some n' ∧ (pGet n'.attrs styleName).1 = sPrint (cLook (rcl l (k : Int) [] (goneR rules st) ++ ownClaims (ownOf n))) := by
 obtain ⟨m, qs, F⟩ := fold_reads R hst hf
 have hp : pParse t = .ok m := by
  have := page_read F.dst.wf (by rw [← F.dst.text]; exact F.dst.len) F.dst.few
  rwa [← F.dst.text, ← F.dst.nodes] at this
 refine ⟨m, hp, F.rel.len.symm, fun k n hn => ?_⟩
 obtain ⟨n', h1, h2⟩ := F.rel.get hn
 refine ⟨n', h1, ?_⟩
 rw [pGet_pr, h2.attrs, getP_set_style, Nat.zero_add, (F.style k n hn).1.text]
def rul (s : B) (ss : List PSel) (t : B) (d : PDecl) : In1 := .rule (ruleText s t) ss [d]
theorem rul_wf {s t : B} {ss : List PSel} {d : PDecl} (hs : SelT s ss) (hd : DeclT t d) : (rul s ss t d).wf := ruleT_of hs hd
theorem name_color : NameOk colorName := ⟨by decide +kernel, by decide, by decide⟩
def declTextB (nm w : B) : B := nm ++ [58, 32] ++ w ++ []
def selQ : PSel := [⟨0, [⟨3, [113], []⟩]⟩]
def selK : PSel := [⟨0, [⟨2, [107], []⟩]⟩]
def rid (a : B) : In1 := rul [35, 113] [selQ] (declText colorName a) ⟨colorName, a, false⟩
def rcls (a : B) : In1 := rul [46, 107] [selK] (declText colorName a) ⟨colorName, a, false⟩
def rtyp (a : B) : In1 := rul [112] [tyP 112] (declText colorName a) ⟨colorName, a, false⟩
theorem rid_wf {a : B} (h : TopW a) : (rid a).wf := rul_wf selT_q (declT_plain name_color h)
theorem rcls_wf {a : B} (h : TopW a) : (rcls a).wf := rul_wf selT_k (declT_plain name_color h)
theorem rtyp_wf {a : B} (h : TopW a) : (rtyp a).wf := rul_wf selT_p (declT_plain name_color h)
theorem rid_len {a : B} (h : TopW a) : (rid a).text.length ≤ 40 := by have := h.len; simp [rid, rul, In1.text, ruleText, declText, colorName]; omega
theorem rcls_len {a : B} (h : TopW a) : (rcls a).text.length ≤ 40 := by have := h.len; simp [rcls, rul, In1.text, ruleText, declText, colorName]; omega
theorem rtyp_len {a : B} (h : TopW a) : (rtyp a).text.length ≤ 40 := by have := h.len; simp [rtyp, rul, In1.text, ruleText, declText, colorName]; omega
theorem stays_none {l : List PNode} {rules : List PRule} {st : List Bool} (S : IsStays l rules st) (h : ∀ r ∈ rules, r.media = []) : st = List.replicate rules.length false ∧ goneR rules st = rules := by
 have h1 : st = List.replicate rules.length false := by
  rw [List.eq_replicate_iff]
  refine ⟨S.len, fun b hb => ?_⟩
  obtain ⟨j, hj⟩ := List.getElem?_of_mem hb
  cases b with
  | false => rfl
  | true =>
   obtain ⟨r, hr, hm⟩ := stay_media ((S.iff j true hj).1 rfl)
   exact absurd (h r hr) hm
 refine ⟨h1, ?_⟩
 subst h1
 have : ∀ rs : List PRule, goneR rs (List.replicate rs.length false) = rs := by
  intro rs
  induction rs with
  | nil => rfl
  | cons r rs ih => simp only [List.length_cons, List.replicate_succ, goneR, Bool.false_eq_true, if_false, ih]
 exact this rules
theorem setStyle_len (al : List (B × B)) (t : B) (hn : (al.map (·.1)).Nodup) : (attrsText (setStyle al t)).length ≤ (attrsText al).length + (t.length + 9) := by
 unfold setStyle
 split
 ·split
  ·clear hn
   rename_i h1 h2
   clear h1 h2
   induction al with
   | nil => simp [attrsText]
   | cons a al ih =>
    simp only [List.filter_cons]
    split
    ·simp only [attrsText, List.length_append] at ih ⊢; omega
    ·simp only [attrsText, List.length_append] at ih ⊢; omega
  ·rename_i h1 h2
   clear h1 h2
   induction al with
   | nil => simp [attrsText]
   | cons a al ih =>
    rw [List.map_cons, List.nodup_cons] at hn
    by_cases ha : a.1 = styleName
    ·have hno : hasStyle al = false := noStyle_of (by rw [← ha]; exact hn.1)
     rw [List.map_cons, noStyle_map t hno, if_pos ha]
     simp only [attrsText, List.length_append]
     have : (attrText (a.1, t)).length = 9 + t.length := by rw [ha]; simp [attrText, styleName]; omega
     omega
    ·have := ih hn.2
     rw [List.map_cons, if_neg ha]
     simp only [attrsText, List.length_append]
     omega
 ·split
  ·omega
  ·simp only [attrsText, List.length_append]
   have : (attrText (styleName, t)).length = 9 + t.length := by simp [attrText, styleName]; omega
   omega
theorem fold_len (tx : Nat → B) (g : Nat → Bool) (M : Nat) : ∀ (T : PT) (d c i : Nat), wfP d T → okP T → (∀ k, c ≤ k → k < c + sizeP T → (tx k).length ≤ M) → (textP (foldP tx g c i T)).length ≤ (textP T).length + sizeP T * (M + 9)
 | .nil, _, _, _, _, _, _ => by simp [foldP, textP]
 | .text x n, d, c, i, hw, ho, h => by
  have := fold_len tx g M n d c i hw.2.2 ho h
  simp only [foldP, textP, List.length_cons, sizeP]; omega
 | .note x n, d, c, i, hw, ho, h => by
  have := fold_len tx g M n d c i hw.2 ho h
  simp only [foldP, textP, List.length_append, sizeP]; omega
 | .elem nm al kids n, d, c, i, hw, ho, h => by
  obtain ⟨h1, h2, h3, h4, h5, h6⟩ := hw
  have a1 := fold_len tx g M kids (d + 1) (c + 1) i h5 ho.1 (fun k k1 k2 => h k (by omega) (by simp only [sizeP]; omega))
  have a2 := fold_len tx g M n d (c + 1 + sizeP kids) (i + nRulesP kids) h6 ho.2 (fun k k1 k2 => h k (by omega) (by simp only [sizeP]; omega))
  have a3 := setStyle_len al (tx c) h4.apart
  have a4 := h c (Nat.le_refl _) (by simp only [sizeP]; omega)
  simp only [foldP, textP, openText, closeText, List.length_append, sizeP, Nat.add_mul, Nat.one_mul] at *
  omega
 | .style al inner n, d, c, i, hw, ho, h => by
  obtain ⟨h1, h4, h5, h6⟩ := hw
  obtain ⟨⟨rs, hr⟩, ho⟩ := ho
  have a2 := fold_len tx g M n d (c + 1) (i + (rulesOf inner).length) h6 ho (fun k k1 k2 => h k (by omega) (by simp only [sizeP]; omega))
  have a3 := setStyle_len al (tx c) h4.apart
  have a4 := h c (Nat.le_refl _) (by simp only [sizeP]; omega)
  have a5 := splice_len (fun j => g (i + j)) rs 0 0 (Nat.zero_le _) (parse_placed hr)
  rw [splice_shift] at a5
  rw [← rulesOf_ok hr] at a5
  simp only [Nat.add_zero] at a5
  simp only [foldP, textP, openText, closeText, List.length_append, sizeP, Nat.add_mul, Nat.one_mul] at *
  omega
theorem print_short {ds : List PDecl} (hd : ∀ d ∈ ds, DeclOk d) {n : Nat} (h : ds.length ≤ n) : (sPrint ds).length ≤ 95 * n := by
 have := print_le hd
 omega
structure TopAs (T : PT) (rs0 : List PRule) : Prop where
 wf : wfP 1 T
 ok : okP T
 len : (textP T).length ≤ 1000
 few : sizeP T ≤ 8
 rules : (treeRules 0 T).map stripR = rs0
 most : rs0.length ≤ 8
 plain : ∀ r ∈ rs0, pAll r.decls ≠ none
 own : nodesBad (nodesP (-1) 0 0 T) = none
theorem TopAs.read {T : PT} {rs0 : List PRule} (h : TopAs T rs0) : ReadAs (textP T) (nodesP (-1) 0 0 T) (treeRules 0 T) T := by
 have hm := h.most
 rw [← h.rules, List.length_map] at hm
 refine ⟨by have := h.len; omega, h.wf, h.ok, by have := h.few; omega, rfl, rfl, rfl, by omega, ?_, h.own⟩
 refine none_plain fun r hr => ?_
 have := h.plain (stripR r) (by rw [← h.rules]; exact List.mem_map.2 ⟨r, hr, rfl⟩)
 exact this
theorem rcl_as {l : List PNode} {k : Int} {rs rs0 : List PRule} (h : rs.map stripR = rs0) : rcl l k [] rs = rcl l k [] rs0 := by rw [← h, rcl_strip]
theorem TopAs.fold {T : PT} {rs0 : List PRule} (h : TopAs T rs0) (hmd : ∀ r ∈ rs0, r.media = [])
  (hx : ∀ (j : Nat) (n : PNode), (nodesP (-1) 0 0 T)[j]? = some n → (cLook (rcl (nodesP (-1) 0 0 T) (j : Int) [] rs0 ++ ownClaims (ownOf n))).length ≤ 4 ∧ n.attrs.length < 8)
  {st : List Bool} (S : IsStays (nodesP (-1) 0 0 T) (treeRules 0 T) st) :
  ∃ (tx : Nat → B) (t : B) (m : List PNode), (∀ (j : Nat) (n : PNode), (nodesP (-1) 0 0 T)[j]? = some n → tx j = sPrint (cLook (rcl (nodesP (-1) 0 0 T) (j : Int) [] rs0 ++ ownClaims (ownOf n)))) ∧
   t = textP (foldP tx (goes st) 0 0 T) ∧ fFold (textP T) (nodesP (-1) 0 0 T) (treeRules 0 T) st = .ok t ∧ pParse t = .ok m ∧ m.length = sizeP T ∧
   ∀ (k : Nat) (n : PNode), (nodesP (-1) 0 0 T)[k]? = some n → ∃ n', m[k]? = some n' ∧ (pGet n'.attrs styleName).1 = tx k := by
 have R := h.read
 have hmd' : ∀ r ∈ treeRules 0 T, r.media = [] := fun r hr => hmd (stripR r) (by rw [← h.rules]; exact List.mem_map.2 ⟨r, hr, rfl⟩)
 obtain ⟨hst, hg⟩ := stays_none S hmd'
 have hfine : ∀ (j : Nat) (n : PNode), (nodesP (-1) 0 0 T)[j]? = some n → ∀ d ∈ cLook (rcl (nodesP (-1) 0 0 T) (j : Int) [] rs0 ++ ownClaims (ownOf n)), DeclOk d := fun j n hn d hd => by
  have := (style_as R (gone := treeRules 0 T) (fun r hr => hr) hn).fine d (by rw [rcl_as h.rules]; exact hd)
  exact this.1
 obtain ⟨tx, h1, h2⟩ := top_fold R S.len (fun j n hn => by
  rw [hg, rcl_as h.rules]
  exact ⟨by have := (hx j n hn).1; omega, (hx j n hn).2⟩) (fun tx htx => by
  have := fold_len tx (goes st) 380 T 1 0 0 h.wf h.ok (fun k _ hk => by
   rw [Nat.zero_add, ← nodesP_len T (-1) 0 0] at hk
   have hn := List.getElem?_eq_getElem hk
   rw [htx k _ hn, hg, rcl_as h.rules]
   exact print_short (hfine k _ hn) (hx k _ hn).1)
  have a := h.few
  have b := h.len
  have : sizeP T * (380 + 9) ≤ 8 * 389 := Nat.mul_le_mul a (Nat.le_refl _)
  omega)
 obtain ⟨m, h3, h4, h5⟩ := top_style R S.len h2
 refine ⟨tx, _, m, fun j n hn => ?_, rfl, h2, h3, by rw [h4, nodesP_len], fun k n hn => ?_⟩
 ·rw [h1 j n hn, hg, rcl_as h.rules]
 ·obtain ⟨n', e1, e2⟩ := h5 k n hn
  exact ⟨n', e1, by rw [e2, h1 k n hn]⟩
theorem own_none {l : List PNode} (h : ∀ n ∈ l, ∀ a ∈ n.attrs, a.name ≠ styleName) : nodesBad l = none := by
 unfold nodesBad
 rw [List.findSome?_eq_none_iff]
 intro a ha
 obtain ⟨n, hn, ha⟩ := List.mem_flatMap.1 ha
 unfold attrBad
 rw [if_neg (h n hn a ha)]
def weightT (xs : List In1) : PT := .style [] (textIn xs) (.elem [112] [(className, [107]), (idName, [113])] (.text 120 .nil) (.elem [112] [(className, [107])] (.text 121 .nil) (.elem [112] [] (.text 122 .nil) .nil)))
def sr (ss : List PSel) (d : PDecl) : PRule := ⟨[], ss, [d], 0, 0⟩
def wOrder {α : Type} (x y z : α) : Nat → List α
 | 0 => [x, y, z]
 | 1 => [x, z, y]
 | 2 => [y, x, z]
 | 3 => [y, z, x]
 | 4 => [z, x, y]
 | _ => [z, y, x]
def wXs (a b c : B) (o : Nat) : List In1 := wOrder (rid a) (rcls b) (rtyp c) o
def wRs (a b c : B) (o : Nat) : List PRule := wOrder (sr [selQ] ⟨colorName, a, false⟩) (sr [selK] ⟨colorName, b, false⟩) (sr [tyP 112] ⟨colorName, c, false⟩) o
theorem wOrder_mem {α : Type} {x y z : α} {o : Nat} {u : α} (h : u ∈ wOrder x y z o) : u = x ∨ u = y ∨ u = z := by
 unfold wOrder at h
 split at h <;> simp only [List.mem_cons, List.not_mem_nil, or_false] at h <;> rcases h with rfl | rfl | rfl <;> simp
theorem six {Q : Nat → Prop} (h0 : Q 0) (h1 : Q 1) (h2 : Q 2) (h3 : Q 3) (h4 : Q 4) (h5 : Q 5) : ∀ o ≤ 5, Q o := by
 intro o ho
 match o, ho with
 | 0, _ => exact h0
 | 1, _ => exact h1
 | 2, _ => exact h2
 | 3, _ => exact h3
 | 4, _ => exact h4
 | 5, _ => exact h5
theorem wText_len {a b c : B} (ha : TopW a) (hb : TopW b) (hc : TopW c) {o : Nat} (ho : o ≤ 5) : (textIn (wXs a b c o)).length ≤ 120 := by
 have l1 := rid_len ha
 have l2 := rcls_len hb
 have l3 := rtyp_len hc
 revert o
 apply six <;> simp only [wXs, wOrder, textIn, List.length_append, List.length_nil] <;> omega
theorem no_tag : ∀ {w : B}, (∀ c ∈ w, c ≠ 60) → findSub styleEnd (w ++ styleEnd) = some w.length
 | [], _ => by decide
 | c :: w, h => by
  have ih := no_tag (w := w) fun x hx => h x (by simp [hx])
  have hp : styleEnd.isPrefixOf (c :: (w ++ styleEnd)) = false := by
   rw [← Bool.not_eq_true]; intro hp
   exact h c (by simp) (prefix_head hp).symm
  exact NoIn.cons (w := styleEnd) (x := c) (y := w) hp ih
theorem word_ne60 {w : B} (h : WordOk w) : ∀ c ∈ w, c ≠ 60 := by
 rintro c hc rfl
 have := h.2 _ hc
 cases this
theorem attrNone : AttrsOk [] := ⟨by simp, by simp, by simp, by simp⟩
theorem attr_cls : AttrsOk [(className, [107])] := ⟨by simp; exact ⟨by decide +kernel, by decide, by decide⟩, by decide, by simp, by simp⟩
theorem attr_two : AttrsOk [(className, [107]), (idName, [113])] := ⟨by
 simp only [List.mem_cons, List.not_mem_nil, or_false]
 rintro a (rfl | rfl) <;> exact ⟨by decide +kernel, by decide, by decide⟩, by decide, by simp, by decide⟩
theorem name_p : NameOk [112] := ⟨by decide +kernel, by decide, by decide⟩
theorem pall_one {d : PDecl} (h : d.name ≠ edgeName) : pAll [d] ≠ none := by
 rw [all_of_plain (x := [d]) (by simpa using h)]; simp
theorem declText_ne60 {nm w : B} (h1 : ∀ c ∈ nm, c ≠ 60) (hw : WordOk w) : ∀ c ∈ declText nm w, c ≠ 60 := by
 have g := word_ne60 hw
 simp only [declText, List.mem_append]
 rintro x (h | h | h)
 ·exact h1 x h
 ·revert x; decide
 ·exact g x h
theorem rul_ne60 {s t : B} {ss : List PSel} {d : PDecl} (h1 : ∀ c ∈ s, c ≠ 60) (h2 : ∀ c ∈ t, c ≠ 60) : ∀ c ∈ (rul s ss t d).text, c ≠ 60 := by
 simp only [rul, In1.text, ruleText, List.mem_append]
 rintro x (h | h | h | h)
 ·exact h1 x h
 ·revert x; decide
 ·exact h2 x h
 ·revert x; decide
theorem textIn_ne60 : ∀ {xs : List In1}, (∀ x ∈ xs, ∀ u ∈ x.text, u ≠ 60) → ∀ u ∈ textIn xs, u ≠ 60 := by
 intro xs
 induction xs with
 | nil => intro _ u hu; cases hu
 | cons y ys ih =>
  intro h u hu
  rcases List.mem_append.1 hu with hu | hu
  ·exact h y (by simp) u hu
  ·exact ih (fun x hx => h x (by simp [hx])) u hu
theorem wRules_len (a b c : B) : ∀ o ≤ 5, (rulesIn [] 0 (wXs a b c o)).length = 3 := by apply six <;> rfl
theorem wRules_strip (a b c : B) (d : Nat) : ∀ o ≤ 5, ((rulesIn [] 0 (wXs a b c o)).map (PRule.shift d)).map stripR = wRs a b c o := by apply six <;> rfl
theorem wRs_len (a b c : B) : ∀ o ≤ 5, (wRs a b c o).length = 3 := by apply six <;> rfl
theorem weight_as {a b c : B} (ha : TopW a) (hb : TopW b) (hc : TopW c) {o : Nat} (ho : o ≤ 5) : TopAs (weightT (wXs a b c o)) (wRs a b c o) := by
 have hwf : ∀ x ∈ wXs a b c o, x.wf := by
  intro x hx
  rcases wOrder_mem hx with rfl | rfl | rfl
  ·exact rid_wf ha
  ·exact rcls_wf hb
  ·exact rtyp_wf hc
 have hl := wText_len ha hb hc ho
 have hsp := sheet_in hwf (by omega) (by rw [wRules_len a b c o ho]; omega)
 have hne : ∀ c' ∈ textIn (wXs a b c o), c' ≠ 60 := by
  refine textIn_ne60 fun x hx => ?_
  rcases wOrder_mem hx with rfl | rfl | rfl
  ·exact rul_ne60 (by decide) (declText_ne60 (by decide) ha.word)
  ·exact rul_ne60 (by decide) (declText_ne60 (by decide) hb.word)
  ·exact rul_ne60 (by decide) (declText_ne60 (by decide) hc.word)
 refine ⟨?_, ⟨⟨_, hsp⟩, trivial, trivial, trivial, trivial⟩, ?_, by simp [weightT, sizeP], ?_, ?_, ?_, ?_⟩
 ·exact ⟨by omega, attrNone, no_tag hne, by omega, name_p, by decide, attr_two, ⟨by decide, by decide, trivial⟩, by omega, name_p, by decide, attr_cls, ⟨by decide, by decide, trivial⟩, by omega, name_p, by decide, attrNone, ⟨by decide, by decide, trivial⟩, trivial⟩
 ·simp [weightT, textP, openText, closeText, attrsText, attrText, styleName, className, idName]; omega
 ·show (treeRules 0 (.style [] (textIn (wXs a b c o)) _)).map stripR = _
  simp only [treeRules, rulesOf_ok hsp, List.append_nil]
  exact wRules_strip a b c _ o ho
 ·rw [wRs_len a b c o ho]; omega
 ·intro r hr
  rcases wOrder_mem hr with rfl | rfl | rfl <;> exact pall_one (show colorName ≠ edgeName by decide)
 ·refine own_none fun n hn x hx => ?_
  simp only [weightT, nodesP, List.nil_append, List.append_nil, List.mem_cons, List.not_mem_nil, or_false, List.mem_append] at hn
  rcases hn with rfl | rfl | rfl | rfl
  ·cases hx
  ·simp only [attrsAt, List.mem_cons, List.not_mem_nil, or_false] at hx
   rcases hx with rfl | rfl <;> simp [className, idName, styleName]
  ·simp only [attrsAt, List.mem_cons, List.not_mem_nil, or_false] at hx
   subst hx; simp [className, styleName]
  ·cases hx
theorem weight_looks (a b c : B) : ∀ o ≤ 5, ∀ (j : Nat) (n : PNode), (nodesP (-1) 0 0 (weightT (wXs a b c o)))[j]? = some n →
  cLook (rcl (nodesP (-1) 0 0 (weightT (wXs a b c o))) (j : Int) [] (wRs a b c o) ++ ownClaims (ownOf n)) = (if j = 0 then [] else if j = 1 then [⟨colorName, a, false⟩] else if j = 2 then [⟨colorName, b, false⟩] else [⟨colorName, c, false⟩]) ∧ n.attrs.length < 8 := by
 apply six <;> intro j n hn <;> match j, hn with
  | 0, hn => have := Option.some.inj hn; subst this; exact ⟨by rfl, by rw [attrsAt_len]; decide⟩
  | 1, hn => have := Option.some.inj hn; subst this; exact ⟨by rfl, by rw [attrsAt_len]; decide⟩
  | 2, hn => have := Option.some.inj hn; subst this; exact ⟨by rfl, by rw [attrsAt_len]; decide⟩
  | 3, hn => have := Option.some.inj hn; subst this; exact ⟨by rfl, by rw [attrsAt_len]; decide⟩
  | j + 4, hn => cases hn
theorem top_weight {a b c : B} (ha : TopW a) (hb : TopW b) (hc : TopW c) {o : Nat} (ho : o ≤ 5) : fRead (textP (weightT (wXs a b c o))) = .ok (nodesP (-1) 0 0 (weightT (wXs a b c o)), treeRules 0 (weightT (wXs a b c o))) ∧
  ∀ st, IsStays (nodesP (-1) 0 0 (weightT (wXs a b c o))) (treeRules 0 (weightT (wXs a b c o))) st → ∃ t m n1 n2 n3, fFold (textP (weightT (wXs a b c o))) (nodesP (-1) 0 0 (weightT (wXs a b c o))) (treeRules 0 (weightT (wXs a b c o))) st = .ok t ∧ pParse t = .ok m ∧
   m.length = 4 ∧ m[1]? = some n1 ∧ m[2]? = some n2 ∧ m[3]? = some n3 ∧ (pGet n1.attrs styleName).1 = declTextB colorName a ∧ (pGet n2.attrs styleName).1 = declTextB colorName b ∧ (pGet n3.attrs styleName).1 = declTextB colorName c := by
 have H := weight_as ha hb hc ho
 refine ⟨as_read H.read, fun st S => ?_⟩
 have hL := weight_looks a b c o ho
 obtain ⟨tx, t, m, h1, h2, h3, h4, h5, h6⟩ := H.fold (by
  intro r hr
  rcases wOrder_mem hr with rfl | rfl | rfl <;> rfl) (fun j n hn => by
  obtain ⟨e1, e2⟩ := hL j n hn
  refine ⟨?_, e2⟩
  rw [e1]
  split
  ·simp
  ·split
   ·simp
   ·split <;> simp) S
 have g1 : tx 1 = declTextB colorName a := by rw [h1 1 _ rfl, (hL 1 _ rfl).1]; rfl
 have g2 : tx 2 = declTextB colorName b := by rw [h1 2 _ rfl, (hL 2 _ rfl).1]; rfl
 have g3 : tx 3 = declTextB colorName c := by rw [h1 3 _ rfl, (hL 3 _ rfl).1]; rfl
 obtain ⟨n1, k1, k1'⟩ := h6 1 _ rfl
 obtain ⟨n2, k2, k2'⟩ := h6 2 _ rfl
 obtain ⟨n3, k3, k3'⟩ := h6 3 _ rfl
 exact ⟨t, m, n1, n2, n3, h3, h4, h5, k1, k2, k3, by rw [k1', g1], by rw [k2', g2], by rw [k3', g3]⟩
def alive6In : B := [60, 115, 116, 121, 108, 101, 62, 112, 123, 99, 111, 108, 111, 114, 58, 114, 101, 100, 125, 60, 47, 115, 116, 121, 108, 101, 62, 60, 112, 62, 120, 60, 47, 112, 62]
def alive6Out : B := [60, 115, 116, 121, 108, 101, 62, 32, 60, 47, 115, 116, 121, 108, 101, 62, 60, 112, 32, 115, 116, 121, 108, 101, 61, 34, 99, 111, 108, 111, 114, 58, 32, 114, 101, 100, 34, 62, 120, 60, 47, 112, 62]
def aliveTIn : B := [60, 115, 116, 121, 108, 101, 62, 112, 123, 99, 111, 108, 111, 114, 58, 114, 101, 100, 125, 32, 64, 109, 101, 100, 105, 97, 32, 119, 105, 100, 101, 123, 112, 123, 115, 105, 122, 101, 58, 49, 50, 125, 125, 32, 98, 123, 115, 105, 122, 101, 58, 57, 125, 60, 47, 115, 116, 121, 108, 101, 62, 60, 112, 62, 60, 98, 62, 120, 60, 47, 98, 62, 60, 47, 112, 62]
def aliveTOut : B := [60, 115, 116, 121, 108, 101, 62, 32, 32, 64, 109, 101, 100, 105, 97, 32, 119, 105, 100, 101, 123, 112, 123, 115, 105, 122, 101, 58, 49, 50, 125, 125, 32, 32, 60, 47, 115, 116, 121, 108, 101, 62, 60, 112, 32, 115, 116, 121, 108, 101, 61, 34, 99, 111, 108, 111, 114, 58, 32, 114, 101, 100, 34, 62, 60, 98, 32, 115, 116, 121, 108, 101, 61, 34, 115, 105, 122, 101, 58, 32, 57, 34, 62, 120, 60, 47, 98, 62, 60, 47, 112, 62]
def okOf {α : Type} (d : α) : Ans α → α
 | .ok a => a
 | .bad _ => d
def isOk {α : Type} : Ans α → Bool
 | .ok _ => true
 | .bad _ => false
theorem okOf_eq {α : Type} {d : α} {a : Ans α} (h : isOk a = true) : a = .ok (okOf d a) := by
 cases a with
 | ok a => rfl
 | bad f => cases h
def alive6L : List PNode × List PRule := okOf ([], []) (fRead alive6In)
def aliveTL : List PNode × List PRule := okOf ([], []) (fRead aliveTIn)
theorem aliveT_read : fRead aliveTIn = .ok aliveTL := okOf_eq (by decide +kernel)
theorem aliveT_touch : aliveTL.2.map (touches aliveTL.1) = [[(1, colorName)], [(1, sizeName)], [(2, sizeName)]] := by decide +kernel
theorem aliveT_media : aliveTL.2.map (·.media) = [[], [119, 105, 100, 101], []] := by decide +kernel
theorem aliveT_fold : fFold aliveTIn aliveTL.1 aliveTL.2 [false, true, false] = .ok aliveTOut := by decide +kernel
theorem aliveT {st : List Bool} (S : IsStays aliveTL.1 aliveTL.2 st) : fFold aliveTIn aliveTL.1 aliveTL.2 st = .ok aliveTOut := by
 have ht : ∀ (i : Nat) (r : PRule), aliveTL.2[i]? = some r → [[(1, colorName)], [(1, sizeName)], [(2, sizeName)]][i]? = some (touches aliveTL.1 r) := fun i r hi => by rw [← aliveT_touch, List.getElem?_map, hi]; rfl
 have hm : ∀ (i : Nat) (r : PRule), aliveTL.2[i]? = some r → [[], [119, 105, 100, 101], []][i]? = some r.media := fun i r hi => by rw [← aliveT_media, List.getElem?_map, hi]; rfl
 have hl : aliveTL.2.length = 3 := by
  have := congrArg List.length aliveT_media
  simpa using this
 have key : ∀ i, Stay aliveTL.1 aliveTL.2 i → i = 1 := by
  intro i h
  induction h with
  | @media i r hi hmd =>
   have := hm i r hi
   match i, this with
   | 0, this => simp at this; exact absurd this hmd
   | 1, _ => rfl
   | 2, this => simp at this; exact absurd this hmd
   | i + 3, this => simp at this
  | @meet i j r q p hi hj hs h1 h2 ih =>
   subst ih
   have a := ht i r hi
   have b := ht 1 q hj
   simp at b
   rw [← b] at h2
   simp only [List.mem_cons, List.not_mem_nil, or_false] at h2
   subst h2
   match i, a with
   | 0, a => simp at a; rw [← a] at h1; simp [sizeName, colorName] at h1
   | 1, _ => rfl
   | 2, a => simp at a; rw [← a] at h1; simp at h1
   | i + 3, a => simp at a
 have s1 : Stay aliveTL.1 aliveTL.2 1 := by
  have h := List.getElem?_eq_getElem (show 1 < aliveTL.2.length by omega)
  refine .media h ?_
  have := hm 1 _ h
  simp at this
  rw [← this]; simp
 have hst : st = [false, true, false] := by
  have hlen := S.len
  rw [hl] at hlen
  match st, hlen, S with
  | [b0, b1, b2], _, S =>
   have h0 := S.iff 0 b0 rfl
   have h1 := S.iff 1 b1 rfl
   have h2 := S.iff 2 b2 rfl
   rw [h1.2 s1]
   have e0 : b0 = false := by
    cases b0 with
    | false => rfl
    | true => have := key 0 (h0.1 rfl); omega
   have e2 : b2 = false := by
    cases b2 with
    | false => rfl
    | true => have := key 2 (h2.1 rfl); omega
   rw [e0, e2]
 rw [hst]
 exact aliveT_fold
end Go.Proofs.YtplbdlgmjehckabGreatDoor

