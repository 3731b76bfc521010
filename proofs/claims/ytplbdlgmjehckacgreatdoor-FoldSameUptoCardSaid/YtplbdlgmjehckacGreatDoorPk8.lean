/-
 Lemmas for the claims of this seat: the program's functions walked, and plain laws. In this order: FoLaws TpTools TpLaws FoAlive FoWays FoSets.
-/
import Derived.Test.YtplbdlgmjehckacGreatDoorPk7
namespace Go.Proofs.YtplbdlgmjehckacGreatDoor
set_option linter.unusedVariables false
set_option linter.unusedSimpArgs false
theorem mem_keepP_iff {α : Type} (p : Nat → Bool) {x : α} : ∀ {xs : List α} {i : Nat}, x ∈ keepP p i xs ↔ ∃ j, xs[j]? = some x ∧ p (i + j) = false
 | [], i => by simp [keepP]
 | y :: ys, i => by
  have ih := mem_keepP_iff p (x := x) (xs := ys) (i := i + 1)
  simp only [keepP]
  constructor
  ·intro h
   split at h
   ·obtain ⟨j, h1, h2⟩ := ih.1 h
    exact ⟨j + 1, by simpa using h1, by rw [show i + (j + 1) = i + 1 + j from by omega]; exact h2⟩
   ·rename_i hp
    rcases List.mem_cons.1 h with rfl | h
    ·exact ⟨0, rfl, by simpa using hp⟩
    ·obtain ⟨j, h1, h2⟩ := ih.1 h
     exact ⟨j + 1, by simpa using h1, by rw [show i + (j + 1) = i + 1 + j from by omega]; exact h2⟩
  ·rintro ⟨j, h1, h2⟩
   cases j with
   | zero =>
    simp only [List.getElem?_cons_zero, Option.some.injEq] at h1
    subst h1
    rw [Nat.add_zero] at h2
    rw [if_neg (by rw [h2]; simp)]
    simp
   | succ j =>
    have := ih.2 ⟨j, by simpa using h1, by rw [show i + 1 + j = i + (j + 1) from by omega]; exact h2⟩
    split
    ·exact this
    ·exact List.mem_cons_of_mem _ this
theorem goes_iff {l : List PNode} {rules : List PRule} {st : List Bool} (h : IsStays l rules st) {i : Nat} (hi : i < rules.length) : goes st i = false ↔ Stay l rules i := by
 have h1 := List.getElem?_eq_getElem (show i < st.length by rw [h.len]; exact hi)
 have h2 := h.iff _ _ h1
 unfold goes
 rw [h1, ← h2]
 cases st[i]'(by rw [h.len]; exact hi) <;> simp
theorem apart {l : List PNode} {rules : List PRule} {st : List Bool} (h : IsStays l rules st) {r q : PRule} (hr : r ∈ keepP (goes st) 0 rules) (hq : q ∈ goneR rules st) {p : Nat × B} (h1 : p ∈ touches l r) (h2 : p ∈ touches l q) : False := by
 rw [gone_keep h.len] at hq
 obtain ⟨i, hi, gi⟩ := (mem_keepP_iff _).1 hr
 obtain ⟨j, hj, gj⟩ := (mem_keepP_iff _).1 hq
 rw [Nat.zero_add] at gi gj
 have hs := (goes_iff h (List.getElem?_eq_some_iff.1 hi).1).1 gi
 have hs' : Stay l rules j := .meet hj hi hs h2 h1
 have := (goes_iff h (List.getElem?_eq_some_iff.1 hj).1).2 hs'
 rw [this] at gj; cases gj
theorem gone_media {l : List PNode} {rules : List PRule} {st : List Bool} (h : IsStays l rules st) {q : PRule} (hq : q ∈ goneR rules st) : q.media = [] := by
 rw [gone_keep h.len] at hq
 obtain ⟨j, hj, gj⟩ := (mem_keepP_iff _).1 hq
 rw [Nat.zero_add] at gj
 refine Classical.byContradiction fun hm => ?_
 have := (goes_iff h (List.getElem?_eq_some_iff.1 hj).1).2 (.media hj hm)
 rw [this] at gj; cases gj
def cl (l : List PNode) (k : Int) (media : List B) (r : PRule) : List PClaim := if (mBest l k r.sels).2 && counts r media then (plainOf r).map (fun x => ⟨x, false, (mBest l k r.sels).1⟩) else []
theorem rcl_cons (l : List PNode) (k : Int) (media : List B) (r : PRule) (rs : List PRule) : rcl l k media (r :: rs) = cl l k media r ++ rcl l k media rs := rfl
theorem cl_none {l : List PNode} {k : Nat} {media : List B} {r : PRule} {n : B} (hk : k < l.length) (h : (k, n) ∉ touches l r) : winner (cl l (k : Int) media r) n = none := by
 have hf := winner_fact (cl l (k : Int) media r) n
 cases hw : winner (cl l (k : Int) media r) n with
 | none => rfl
 | some w =>
  exfalso
  rw [hw] at hf
  obtain ⟨h1, h2, _⟩ := hf
  unfold cl at h1
  split at h1
  ·rename_i hb
   obtain ⟨d, hd, rfl⟩ := List.mem_map.1 h1
   rw [Bool.and_eq_true] at hb
   exact h (mem_touches.2 ⟨hk, hb.1, d, hd, h2⟩)
  ·cases h1
theorem rcl_keep {l : List PNode} {k : Nat} {media : List B} {n : B} (hk : k < l.length) (p : Nat → Bool) : ∀ (rs : List PRule) (i : Nat), (∀ j r, rs[j]? = some r → p (i + j) = true → (k, n) ∉ touches l r) →
  winner (rcl l (k : Int) media rs) n = winner (rcl l (k : Int) media (keepP p i rs)) n
 | [], _, _ => rfl
 | r :: rs, i, h => by
  have ih := rcl_keep (media := media) hk p rs (i + 1) fun j q hq hp => h (j + 1) q (by simpa using hq) (by rw [show i + (j + 1) = i + 1 + j from by omega]; exact hp)
  rw [rcl_cons, winner_app, ih]
  simp only [keepP]
  split
  ·rename_i hp
   rw [cl_none hk (h 0 r rfl (by rw [Nat.add_zero]; exact hp))]
   exact (by cases winner (rcl l (k : Int) media (keepP p (i + 1) rs)) n <;> rfl)
  ·rw [rcl_cons, winner_app]
theorem rcl_media {l : List PNode} {k : Int} {media media' : List B} : ∀ {rs : List PRule}, (∀ r ∈ rs, r.media = []) → rcl l k media rs = rcl l k media' rs
 | [], _ => rfl
 | r :: rs, h => by
  rw [rcl_cons, rcl_cons, rcl_media (fun q hq => h q (by simp [hq]))]
  unfold cl counts
  rw [h r (by simp)]
  rfl
theorem rcl_none {l : List PNode} {k : Nat} {media : List B} {n : B} (hk : k < l.length) : ∀ {rs : List PRule}, (∀ r ∈ rs, (k, n) ∉ touches l r) → winner (rcl l (k : Int) media rs) n = none
 | [], _ => rfl
 | r :: rs, h => by
  rw [rcl_cons, winner_app, cl_none hk (h r (by simp)), rcl_none hk fun q hq => h q (by simp [hq])]
  rfl
theorem rcl_strip (l : List PNode) (k : Int) (media : List B) (rs : List PRule) : rcl l k media (rs.map stripR) = rcl l k media rs := by
 induction rs with
 | nil => rfl
 | cons r rs ih => rw [List.map_cons, rcl_cons, rcl_cons, ih]; rfl
theorem rcl_rel {tx : Nat → B} {l m : List PNode} (h : RelL tx 0 l m) {rs : List PRule} (hr : ∀ r ∈ rs, RuleOk r) (k : Int) (media : List B) : rcl m k media rs = rcl l k media rs := by
 induction rs with
 | nil => rfl
 | cons r rs ih =>
  rw [rcl_cons, rcl_cons, ih fun q hq => hr q (by simp [hq])]
  unfold cl
  rw [rel_best h (hr r (by simp)).sels]
theorem winner_own {ds : List PDecl} {n : B} {c : PClaim} (h : winner (ownClaims ds) n = some c) : c = ⟨c.d, true, ⟨0, 0, 0⟩⟩ ∧ c.d ∈ ds ∧ c.d.name = n := by
 have hf := winner_fact (ownClaims ds) n
 rw [h] at hf
 obtain ⟨h1, h2, _⟩ := hf
 unfold ownClaims at h1
 obtain ⟨d, hd, rfl⟩ := List.mem_map.1 h1
 exact ⟨rfl, hd, h2⟩
theorem winner_ownLook (cs : List PClaim) (n : B) : winner (ownClaims (cLook cs)) n = (winner cs n).map fun c => ⟨c.d, true, ⟨0, 0, 0⟩⟩ := by
 cases hw : winner (ownClaims (cLook cs)) n with
 | some w =>
  obtain ⟨h1, h2, h3⟩ := winner_own hw
  obtain ⟨c, hc, hd⟩ := look_mem.1 h2
  rw [h3] at hc
  rw [hc, Option.map_some, hd, ← h1]
 | none =>
  have hf := winner_fact (ownClaims (cLook cs)) n
  rw [hw] at hf
  cases hc : winner cs n with
  | none => rfl
  | some c =>
   exfalso
   have hf2 := winner_fact cs n
   rw [hc] at hf2
   have hm : c.d ∈ cLook cs := look_mem.2 ⟨c, by rw [hf2.2.1]; exact hc, rfl⟩
   exact hf ⟨c.d, true, ⟨0, 0, 0⟩⟩ (List.mem_map.2 ⟨c.d, hm, rfl⟩) hf2.2.1
section
variable {s t : B} {l m : List PNode} {rules qs : List PRule} {st : List Bool} {T : PT}
theorem FoldAs.look_own (F : FoldAs s t l m rules qs st T) {k : Nat} {n n' : PNode} (hn : l[k]? = some n) (hn' : m[k]? = some n') :
  ownOf n' = cLook (rcl l (k : Int) [] (goneR rules st) ++ ownClaims (ownOf n)) ∧ (pGet n'.attrs styleName).1 = sPrint (cLook (rcl l (k : Int) [] (goneR rules st) ++ ownClaims (ownOf n))) := by
 obtain ⟨h1, h2⟩ := F.style k n hn
 obtain ⟨m', hm', hr⟩ := F.rel.get hn
 rw [hn'] at hm'
 cases hm'
 rw [Nat.zero_add] at hr
 have hg : (pGet n'.attrs styleName).1 = sPrint (cLook (rcl l (k : Int) [] (goneR rules st) ++ ownClaims (ownOf n))) := by
  rw [pGet_pr, hr.attrs, getP_set_style, h1.text]
 refine ⟨?_, hg⟩
 generalize cLook (rcl l (k : Int) [] (goneR rules st) ++ ownClaims (ownOf n)) = lk at *
 unfold ownOf ownDecls
 rw [hg, print_read (fun d hd => (h1.fine d hd).1) h2]
 simp only
 rw [all_of_plain fun d hd => (h1.fine d hd).2]
theorem FoldAs.rules_ok (F : FoldAs s t l m rules qs st T) : (∀ r ∈ rules, RuleOk r) ∧ ∀ r ∈ qs, RuleOk r :=
 ⟨fun r hr => treeRules_ok T 0 F.src.ok r (by rw [← F.src.rulesEq]; exact hr), fun r hr => treeRules_ok _ 0 F.dst.ok r (by rw [← F.dst.rulesEq]; exact hr)⟩
theorem FoldAs.claims (F : FoldAs s t l m rules qs st T) (k : Int) (media : List B) : rcl m k media qs = rcl l k media (keepP (goes st) 0 rules) := by
 rw [rcl_rel F.rel F.rules_ok.2, ← rcl_strip, F.kept, keepP_map, rcl_strip]
theorem fold_declared (F : FoldAs s t l m rules qs st T) (S : IsStays l rules st) (k : Int) (media : List B) : cDeclared m k qs media = cDeclared l k rules media := by
 cases hr : inR l k with
 | false =>
  unfold cDeclared
  rw [rel_inR F.rel, hr]
  rfl
 | true =>
  obtain ⟨j, rfl⟩ : ∃ j : Nat, k = (j : Int) := ⟨k.toNat, by simp [inR] at hr; omega⟩
  have hj : j < l.length := by simp [inR] at hr; omega
  have hn := List.getElem?_eq_getElem hj
  generalize l[j] = n at hn
  obtain ⟨n', hn', hnr⟩ := F.rel.get hn
  rw [declared_eq hn (fun r hr => plain_none F.src.plain r hr) F.src.own, declared_eq hn' (fun r hr => plain_none F.dst.plain r hr) F.dst.own, (F.look_own hn hn').1, F.claims]
  congr 1
  refine look_ext fun x => ?_
  rw [winner_app, winner_app, winner_ownLook, winner_app]
  by_cases hst : ∃ r ∈ keepP (goes st) 0 rules, (j, x) ∈ touches l r
  ·obtain ⟨r, hrm, hrt⟩ := hst
   have hgone : ∀ q ∈ goneR rules st, (j, x) ∉ touches l q := fun q hq ht => apart S hrm hq hrt ht
   rw [rcl_none hj hgone]
   rw [rcl_keep (media := media) (n := x) hj (goes st) rules 0 fun i q hq hg => hgone q (by rw [gone_keep S.len]; exact (mem_keepP_iff _).2 ⟨i, hq, by rw [hg]; rfl⟩)]
   have hc : comb none (winner (ownClaims (ownOf n)) x) = winner (ownClaims (ownOf n)) x := by cases winner (ownClaims (ownOf n)) x <;> rfl
   rw [hc]
   cases hw : winner (ownClaims (ownOf n)) x with
   | none => rfl
   | some c => rw [Option.map_some, ← (winner_own hw).1]
  ·have hst' : ∀ r ∈ keepP (goes st) 0 rules, (j, x) ∉ touches l r := fun r hr ht => hst ⟨r, hr, ht⟩
   rw [rcl_none hj hst']
   rw [rcl_keep (media := media) (n := x) hj (fun i => !goes st i) rules 0 fun i q hq hg => hst' q ((mem_keepP_iff _).2 ⟨i, hq, by simpa using hg⟩)]
   rw [← gone_keep S.len, rcl_media (media := media) (media' := []) fun q hq => gone_media S hq]
   have hc : ∀ a : Option PClaim, comb none a = a := by intro a; cases a <;> rfl
   rw [hc, Option.map_map]
   rfl
theorem fold_value (F : FoldAs s t l m rules qs st T) (S : IsStays l rules st) (k : Int) (media : List B) (name : B) : cValue m k qs media name = cValue l k rules media name := by
 unfold cValue
 have : ∀ (f : Nat) (k : Int), cValueF f m k qs media name = cValueF f l k rules media name := by
  intro f
  induction f with
  | zero => intro k; rfl
  | succ f ih =>
   intro k
   simp only [cValueF, fold_declared F S, rel_parent F.rel, ih]
 exact this _ k
theorem stay_media {i : Nat} (h : Stay l rules i) : ∃ r ∈ rules, r.media ≠ [] := by
 induction h with
 | media hi hm => exact ⟨_, List.mem_of_getElem? hi, hm⟩
 | meet _ _ _ _ _ ih => exact ih
def noStyle (al : List (B × B)) : List (B × B) := al.filter fun a => !(a.1 == styleName)
end
end Go.Proofs.YtplbdlgmjehckacGreatDoor

namespace Go.Proofs.YtplbdlgmjehckacGreatDoor
set_option linter.unusedVariables false
set_option linter.unusedSimpArgs false
structure TopW (w : B) : Prop where
 word : WordOk w
 len : w.length ≤ 20
theorem TopW.val {w : B} (h : TopW w) : ValOk w := word_valOk h.word (by have := h.len; omega)
def declStop (m : B) : Prop := m = [] ∨ (∃ t, m = 59 :: t) ∨ ∃ t, m = 125 :: t
structure DeclT (t : B) (d : PDecl) : Prop where
 read : ∀ m, declStop m → ∀ b, sDecl (t ++ m) b = .ok (d, m, b + t.length)
 head : ∃ c u, t = c :: u ∧ isLow c = true
def declText (nm w : B) : B := nm ++ ([58] ++ w)
def bang : B := [33] ++ importantWord
structure SelT (t : B) (ss : List PSel) : Prop where
 read : ∀ (m : B) (b : Nat), sSelsL ((t ++ (123 :: m)).length + 1) [] (t ++ (123 :: m)) b = .ok (ss, 123 :: m, b + t.length)
 head : ∃ c u, t = c :: u ∧ headCh c = true
def ruleText (s d : B) : B := s ++ ([123] ++ (d ++ [125]))
def tyP (c : UInt8) : PSel := [⟨0, [⟨1, [c], []⟩]⟩]
def wideW : B := [119, 105, 100, 101]
def wideHead : B := [32, 119, 105, 100, 101, 123]
end Go.Proofs.YtplbdlgmjehckacGreatDoor

namespace Go.Proofs.YtplbdlgmjehckacGreatDoor
set_option linter.unusedVariables false
set_option linter.unusedSimpArgs false
def rul (s : B) (ss : List PSel) (t : B) (d : PDecl) : In1 := .rule (ruleText s t) ss [d]
def declTextB (nm w : B) : B := nm ++ [58, 32] ++ w ++ []
def selQ : PSel := [⟨0, [⟨3, [113], []⟩]⟩]
def selK : PSel := [⟨0, [⟨2, [107], []⟩]⟩]
def rid (a : B) : In1 := rul [35, 113] [selQ] (declText colorName a) ⟨colorName, a, false⟩
def rcls (a : B) : In1 := rul [46, 107] [selK] (declText colorName a) ⟨colorName, a, false⟩
def rtyp (a : B) : In1 := rul [112] [tyP 112] (declText colorName a) ⟨colorName, a, false⟩
theorem stays_none {l : List PNode} {rules : List PRule} {st : List Bool} (S : IsStays l rules st) (h : ∀ r ∈ rules, r.media = []) : st = List.replicate rules.length false ∧ goneR rules st = rules := by
 have h1 : st = List.replicate rules.length false := by
  rw [List.eq_replicate_iff]
  refine ⟨S.len, fun b hb => ?_⟩
  obtain ⟨j, hj⟩ := List.getElem?_of_mem hb
  cases b with
  | false => rfl
  | true =>
   obtain ⟨r, hr, hm⟩ := stay_media ((S.iff j true hj).1 rfl)
   exact absurd (h r hr) hm
 refine ⟨h1, ?_⟩
 subst h1
 have : ∀ rs : List PRule, goneR rs (List.replicate rs.length false) = rs := by
  intro rs
  induction rs with
  | nil => rfl
  | cons r rs ih => simp only [List.length_cons, List.replicate_succ, goneR, Bool.false_eq_true, if_false, ih]
 exact this rules
structure TopAs (T : PT) (rs0 : List PRule) : Prop where
 wf : wfP 1 T
 ok : okP T
 len : (textP T).length ≤ 1000
 few : sizeP T ≤ 8
 rules : (treeRules 0 T).map stripR = rs0
 most : rs0.length ≤ 8
 plain : ∀ r ∈ rs0, pAll r.decls ≠ none
 own : nodesBad (nodesP (-1) 0 0 T) = none
theorem TopAs.read {T : PT} {rs0 : List PRule} (h : TopAs T rs0) : ReadAs (textP T) (nodesP (-1) 0 0 T) (treeRules 0 T) T := by
 have hm := h.most
 rw [← h.rules, List.length_map] at hm
 refine ⟨by have := h.len; omega, h.wf, h.ok, by have := h.few; omega, rfl, rfl, rfl, by omega, ?_, h.own⟩
 refine none_plain fun r hr => ?_
 have := h.plain (stripR r) (by rw [← h.rules]; exact List.mem_map.2 ⟨r, hr, rfl⟩)
 exact this
def weightT (xs : List In1) : PT := .style [] (textIn xs) (.elem [112] [(className, [107]), (idName, [113])] (.text 120 .nil) (.elem [112] [(className, [107])] (.text 121 .nil) (.elem [112] [] (.text 122 .nil) .nil)))
def sr (ss : List PSel) (d : PDecl) : PRule := ⟨[], ss, [d], 0, 0⟩
def wOrder {α : Type} (x y z : α) : Nat → List α
 | 0 => [x, y, z]
 | 1 => [x, z, y]
 | 2 => [y, x, z]
 | 3 => [y, z, x]
 | 4 => [z, x, y]
 | _ => [z, y, x]
def wXs (a b c : B) (o : Nat) : List In1 := wOrder (rid a) (rcls b) (rtyp c) o
def wRs (a b c : B) (o : Nat) : List PRule := wOrder (sr [selQ] ⟨colorName, a, false⟩) (sr [selK] ⟨colorName, b, false⟩) (sr [tyP 112] ⟨colorName, c, false⟩) o
end Go.Proofs.YtplbdlgmjehckacGreatDoor

namespace Go.Proofs.YtplbdlgmjehckacGreatDoor
set_option linter.unusedVariables false
set_option linter.unusedSimpArgs false
def alive6In : B := [60, 115, 116, 121, 108, 101, 62, 112, 123, 99, 111, 108, 111, 114, 58, 114, 101, 100, 125, 60, 47, 115, 116, 121, 108, 101, 62, 60, 112, 62, 120, 60, 47, 112, 62]
def alive6Out : B := [60, 115, 116, 121, 108, 101, 62, 32, 60, 47, 115, 116, 121, 108, 101, 62, 60, 112, 32, 115, 116, 121, 108, 101, 61, 34, 99, 111, 108, 111, 114, 58, 32, 114, 101, 100, 34, 62, 120, 60, 47, 112, 62]
def aliveTIn : B := [60, 115, 116, 121, 108, 101, 62, 112, 123, 99, 111, 108, 111, 114, 58, 114, 101, 100, 125, 32, 64, 109, 101, 100, 105, 97, 32, 119, 105, 100, 101, 123, 112, 123, 115, 105, 122, 101, 58, 49, 50, 125, 125, 32, 98, 123, 115, 105, 122, 101, 58, 57, 125, 60, 47, 115, 116, 121, 108, 101, 62, 60, 112, 62, 60, 98, 62, 120, 60, 47, 98, 62, 60, 47, 112, 62]
def aliveTOut : B := [60, 115, 116, 121, 108, 101, 62, 32, 32, 64, 109, 101, 100, 105, 97, 32, 119, 105, 100, 101, 123, 112, 123, 115, 105, 122, 101, 58, 49, 50, 125, 125, 32, 32, 60, 47, 115, 116, 121, 108, 101, 62, 60, 112, 32, 115, 116, 121, 108, 101, 61, 34, 99, 111, 108, 111, 114, 58, 32, 114, 101, 100, 34, 62, 60, 98, 32, 115, 116, 121, 108, 101, 61, 34, 115, 105, 122, 101, 58, 32, 57, 34, 62, 120, 60, 47, 98, 62, 60, 47, 112, 62]
def okOf {α : Type} (d : α) : Ans α → α
 | .ok a => a
 | .bad _ => d
def isOk {α : Type} : Ans α → Bool
 | .ok _ => true
 | .bad _ => false
theorem okOf_eq {α : Type} {d : α} {a : Ans α} (h : isOk a = true) : a = .ok (okOf d a) := by
 cases a with
 | ok a => rfl
 | bad f => cases h
def alive6L : List PNode × List PRule := okOf ([], []) (fRead alive6In)
def aliveTL : List PNode × List PRule := okOf ([], []) (fRead aliveTIn)
theorem alive6_read : fRead alive6In = .ok alive6L := okOf_eq (by decide +kernel)
theorem alive6_media : ∀ r ∈ alive6L.2, r.media = [] := by decide +kernel
theorem alive6_len : alive6L.2.length = 1 := by decide +kernel
theorem alive6_fold : fFold alive6In alive6L.1 alive6L.2 [false] = .ok alive6Out := by decide +kernel
theorem alive6 {st : List Bool} (S : IsStays alive6L.1 alive6L.2 st) : fFold alive6In alive6L.1 alive6L.2 st = .ok alive6Out := by
 have := (stays_none S alive6_media).1
 rw [alive6_len] at this
 rw [this]
 exact alive6_fold
end Go.Proofs.YtplbdlgmjehckacGreatDoor

namespace Go.Proofs.YtplbdlgmjehckacGreatDoor
set_option linter.unusedVariables false
set_option linter.unusedSimpArgs false
def tru (st : List Bool) (i : Nat) : Nat := (st.take i).count true
def pick {α : Type} : List α → List Bool → List α
 | r :: rs, b :: bs => if b = true then r :: pick rs bs else pick rs bs
 | _, _ => []
theorem keep_from {α : Type} : ∀ (rules : List α) (pre st : List Bool), st.length = rules.length → keepP (goes (pre ++ st)) pre.length rules = pick rules st
 | [], _, _, _ => by simp [keepP, pick]
 | r :: rs, pre, [], h => by simp at h
 | r :: rs, pre, b :: bs, h => by
  have ih := keep_from rs (pre ++ [b]) bs (by simpa using h)
  simp only [List.append_assoc, List.length_append, List.length_cons, List.length_nil, List.cons_append, List.nil_append] at ih
  simp only [keepP, pick]
  have hg : goes (pre ++ b :: bs) pre.length = !b := by
   unfold goes
   rw [List.getElem?_append_right (Nat.le_refl _), Nat.sub_self]
   cases b <;> simp
  rw [hg, ih]
  cases b <;> simp
theorem keep_pick {α : Type} {rules : List α} {st : List Bool} (h : st.length = rules.length) : keepP (goes st) 0 rules = pick rules st := keep_from rules [] st h
theorem pick_get {α : Type} : ∀ (rs : List α) (st : List Bool) (i : Nat) (r : α), st.length = rs.length → rs[i]? = some r → st[i]? = some true → (pick rs st)[tru st i]? = some r
 | [], _, _, _, _, h, _ => by simp at h
 | x :: xs, [], _, _, h, _, _ => by simp at h
 | x :: xs, b :: bs, 0, r, hl, h, hs => by
  simp at h hs
  subst h; subst hs
  simp [pick, tru]
 | x :: xs, b :: bs, i + 1, r, hl, h, hs => by
  have ih := pick_get xs bs i r (by simpa using hl) (by simpa using h) (by simpa using hs)
  have ht : tru (b :: bs) (i + 1) = tru bs i + (if b = true then 1 else 0) := by
   unfold tru
   rw [List.take_succ_cons, List.count_cons]
   cases b <;> simp
  rw [ht]
  simp only [pick]
  cases b <;> simp [ih]
theorem pick_len {α : Type} : ∀ (rs : List α) (st : List Bool), st.length = rs.length → (pick rs st).length = tru st st.length
 | [], [], _ => rfl
 | [], b :: bs, h => by simp at h
 | x :: xs, [], h => by simp at h
 | x :: xs, b :: bs, h => by
  have ih := pick_len xs bs (by simpa using h)
  have ht : tru (b :: bs) (bs.length + 1) = tru bs bs.length + (if b = true then 1 else 0) := by
   unfold tru
   rw [List.take_succ_cons, List.count_cons]
   cases b <;> simp
  rw [List.length_cons, ht]
  simp only [pick]
  cases b <;> simp [ih]
section
variable {s t : B} {l m : List PNode} {rules qs : List PRule} {st : List Bool} {T : PT}
theorem FoldAs.left (F : FoldAs s t l m rules qs st T) {i : Nat} {r : PRule} (hr : rules[i]? = some r) (hs : st[i]? = some true) : ∃ q, qs[tru st i]? = some q ∧ { q with lo := r.lo, hi := r.hi } = r := by
 have h1 := F.kept
 rw [keep_pick (by rw [F.len, List.length_map])] at h1
 have h2 := pick_get (rules.map stripR) st i (stripR r) (by rw [F.len, List.length_map]) (by rw [List.getElem?_map, hr]; rfl) hs
 rw [← h1, List.getElem?_map, Option.map_eq_some_iff] at h2
 obtain ⟨q, hq, he⟩ := h2
 refine ⟨q, hq, ?_⟩
 cases q; cases r
 simp only [stripR, PRule.mk.injEq] at he ⊢
 obtain ⟨h1, h2, h3, _⟩ := he
 exact ⟨h1, h2, h3, trivial, trivial⟩
theorem FoldAs.left_len (F : FoldAs s t l m rules qs st T) : qs.length = tru st rules.length := by
 have h1 := congrArg List.length F.kept
 rw [keep_pick (by rw [F.len, List.length_map]), pick_len _ _ (by rw [F.len, List.length_map]), List.length_map, F.len] at h1
 exact h1
def someM (rules : List PRule) (i : Nat) : Bool := (rules.take i).any fun r => !r.media.isEmpty
def bareOf (a : PAttr) : PAttr := ⟨a.name, a.val, 0, 0⟩
def bare (al : List PAttr) : List PAttr := (al.filter fun a => !(a.name == styleName)).map bareOf
def stillR (rules : List PRule) (i : Nat) : Bool := (rules.take i).all fun r => !r.media.isEmpty
def stillA (al : List PAttr) (i : Nat) : Bool := (al.take i).all fun a => !(a.name == styleName)
def stillN (l : List PNode) (i : Nat) : Bool := (l.take i).all fun n => stillA n.attrs n.attrs.length
theorem ReadAs.declared (R : ReadAs s l rules T) (media : List B) {k : Nat} (hk : k < l.length) : ∃ look, cDeclared l (k : Int) rules media = .ok look :=
 ⟨_, declared_eq (List.getElem?_eq_getElem hk) (fun r hr => plain_none R.plain r hr) R.own⟩
theorem ReadAs.bare (R : ReadAs s l rules T) (media : List B) {k : Nat} (hk : k < l.length) : ∃ look, cDeclared l (k : Int) [] media = .ok look :=
 ⟨_, declared_eq (List.getElem?_eq_getElem hk) (fun r hr => by cases hr) R.own⟩
theorem value_okF {rs : List PRule} {media : List B} {name : B} (h : ∀ k : Nat, k < l.length → ∃ look, cDeclared l (k : Int) rs media = .ok look) : ∀ (f k : Nat), k < l.length → k < f → ∃ v, cValueF f l (k : Int) rs media name = .ok v
 | 0, k, _, hf => by omega
 | f + 1, k, hk, hf => by
  obtain ⟨look, hl⟩ := h k hk
  simp only [cValueF, hl, Ans.ok_then]
  cases lookFind look name with
  | some d => exact ⟨_, rfl⟩
  | none =>
   simp only
   split
   ·rename_i hc
    simp only [Bool.and_eq_true, decide_eq_true_eq] at hc
    obtain ⟨⟨_, h0⟩, h1⟩ := hc
    obtain ⟨j, hj⟩ : ∃ j : Nat, parentOf l (k : Int).toNat = (j : Int) := ⟨(parentOf l (k : Int).toNat).toNat, by omega⟩
    rw [hj] at h1 ⊢
    exact value_okF h f j (by omega) (by omega)
   ·exact ⟨_, rfl⟩
theorem ReadAs.value (R : ReadAs s l rules T) (media : List B) (name : B) {k : Nat} (hk : k < l.length) : ∃ v, cValue l (k : Int) rules media name = .ok v :=
 value_okF (fun k hk => R.declared media hk) _ k hk (by simp)
end
end Go.Proofs.YtplbdlgmjehckacGreatDoor

namespace Go.Proofs.YtplbdlgmjehckacGreatDoor
set_option linter.unusedVariables false
set_option linter.unusedSimpArgs false
def mname1 (acc : List B) (r : PRule) : List B := if (!r.media.isEmpty && !acc.contains r.media && decide (acc.length < 8)) = true then acc ++ [r.media] else acc
def mnames (rs : List PRule) : List B := rs.foldl mname1 []
def gset1 (out : List (List B)) (n : B) : List (List B) := out ++ out.map fun s => s ++ [n]
def gsets (ns : List B) : List (List B) := ns.foldl gset1 [[]]
theorem foldl_take {α β : Type} (f : β → α → β) (b : β) {xs : List α} {i : Nat} {x : α} (h : xs[i]? = some x) : (xs.take (i + 1)).foldl f b = f ((xs.take i).foldl f b) x := by
 rw [List.take_add_one, h, Option.toList_some, List.foldl_append]
 rfl
theorem mnames_take {rs : List PRule} {i : Nat} {r : PRule} (h : rs[i]? = some r) : mnames (rs.take (i + 1)) = mname1 (mnames (rs.take i)) r := foldl_take _ _ h
theorem gsets_take {ns : List B} {i : Nat} {n : B} (h : ns[i]? = some n) : gsets (ns.take (i + 1)) = gset1 (gsets (ns.take i)) n := foldl_take _ _ h
theorem mname1_len {acc : List B} (r : PRule) (h : acc.length ≤ 8) : (mname1 acc r).length ≤ 8 := by
 unfold mname1
 split
 ·rename_i hh
  simp only [Bool.and_eq_true, decide_eq_true_eq] at hh
  simp; omega
 ·exact h
theorem mfold_len : ∀ (rs : List PRule) (acc : List B), acc.length ≤ 8 → (rs.foldl mname1 acc).length ≤ 8
 | [], _, h => h
 | r :: rs, acc, h => mfold_len rs _ (mname1_len r h)
theorem mnames_len (rs : List PRule) : (mnames rs).length ≤ 8 := mfold_len rs [] (by simp)
theorem gset1_len (out : List (List B)) (n : B) : (gset1 out n).length = out.length + out.length := by simp [gset1]
theorem gfold_len : ∀ (ns : List B) (out : List (List B)), (ns.foldl gset1 out).length = out.length * 2 ^ ns.length
 | [], out => by simp
 | n :: ns, out => by
  rw [List.foldl_cons, gfold_len ns, gset1_len, List.length_cons, Nat.pow_succ]
  rw [← Nat.two_mul, Nat.mul_comm 2, Nat.mul_assoc, Nat.mul_comm 2]
theorem gsets_len (ns : List B) : (gsets ns).length = 2 ^ ns.length := by rw [gsets, gfold_len]; simp
theorem gsets_le {ns : List B} (h : ns.length ≤ 8) : (gsets ns).length ≤ 256 := by
 rw [gsets_len]
 exact Nat.le_trans (Nat.pow_le_pow_right (by omega) h) (by decide)
theorem gfold_each : ∀ (ns : List B) (out : List (List B)) (k : Nat), (∀ s ∈ out, s.length ≤ k) → ∀ s ∈ ns.foldl gset1 out, s.length ≤ k + ns.length
 | [], out, k, h => fun s hs => by simpa using h s hs
 | n :: ns, out, k, h => fun s hs => by
  have := gfold_each ns (gset1 out n) (k + 1) (fun x hx => by
   simp only [gset1, List.mem_append, List.mem_map] at hx
   rcases hx with hx | ⟨y, hy, rfl⟩
   ·have := h x hx; omega
   ·have := h y hy; simp; omega) s hs
  simp only [List.length_cons]; omega
theorem gsets_each {ns : List B} {s : List B} (h : s ∈ gsets ns) : s.length ≤ ns.length := by
 have := gfold_each ns [[]] 0 (by simp) s h
 omega
def gpart (out : List (List B)) (n : B) (j : Nat) : List (List B) := out ++ (out.take j).map fun s => s ++ [n]
theorem gpart_zero (out : List (List B)) (n : B) : gpart out n 0 = out := by simp [gpart]
theorem gpart_end (out : List (List B)) (n : B) : gpart out n out.length = gset1 out n := by simp [gpart, gset1]
theorem gpart_succ {out : List (List B)} {n : B} {j : Nat} {s : List B} (h : out[j]? = some s) : gpart out n (j + 1) = gpart out n j ++ [s ++ [n]] := by
 simp [gpart, List.take_add_one, h]
theorem gpart_len (out : List (List B)) (n : B) {j : Nat} (h : j ≤ out.length) : (gpart out n j).length = out.length + j := by
 simp only [gpart, List.length_append, List.length_map, List.length_take]; omega
def dnames (d : PDecl) : List B := [d.name, d.name ++ [45, 116, 111, 112], d.name ++ [45, 108, 101, 102, 116]]
def rnames (r : PRule) : List B := r.decls.flatMap dnames
def snames (name : B) (rs : List PRule) : List B := [name, [99, 111, 108, 111, 114], [115, 105, 122, 101]] ++ rs.flatMap rnames
theorem flatMap_take {α β : Type} (f : α → List β) {xs : List α} {i : Nat} {x : α} (h : xs[i]? = some x) : (xs.take (i + 1)).flatMap f = (xs.take i).flatMap f ++ f x := by
 rw [List.take_add_one, h, Option.toList_some, List.flatMap_append]
 simp
theorem rnames_len (r : PRule) : (rnames r).length = 3 * r.decls.length := by
 unfold rnames
 induction r.decls with
 | nil => rfl
 | cons d ds ih => rw [List.flatMap_cons, List.length_append, ih]; simp [dnames]; omega
end Go.Proofs.YtplbdlgmjehckacGreatDoor

