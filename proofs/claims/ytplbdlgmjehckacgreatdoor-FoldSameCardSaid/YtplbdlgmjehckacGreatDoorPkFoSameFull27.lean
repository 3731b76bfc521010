/-
 Lemmas for the claims of this seat: the program's functions walked, and plain laws. In this order: FoWays FoSets.
-/
import Derived.Test.YtplbdlgmjehckacGreatDoorPk8
namespace Go.Proofs.YtplbdlgmjehckacGreatDoor
set_option linter.unusedVariables false
set_option linter.unusedSimpArgs false
def tru (st : List Bool) (i : Nat) : Nat := (st.take i).count true
theorem tru_succ {st : List Bool} {i : Nat} {b : Bool} (h : st[i]? = some b) : tru st (i + 1) = tru st i + (if b = true then 1 else 0) := by
 unfold tru
 rw [List.take_add_one, h, List.count_append]
 cases b <;> simp
def pick {α : Type} : List α → List Bool → List α
 | r :: rs, b :: bs => if b = true then r :: pick rs bs else pick rs bs
 | _, _ => []
theorem keep_from {α : Type} : ∀ (rules : List α) (pre st : List Bool), st.length = rules.length → keepP (goes (pre ++ st)) pre.length rules = pick rules st
 | [], _, _, _ => by simp [keepP, pick]
 | r :: rs, pre, [], h => by simp at h
 | r :: rs, pre, b :: bs, h => by
  have ih := keep_from rs (pre ++ [b]) bs (by simpa using h)
  simp only [List.append_assoc, List.length_append, List.length_cons, List.length_nil, List.cons_append, List.nil_append] at ih
  simp only [keepP, pick]
  have hg : goes (pre ++ b :: bs) pre.length = !b := by
   unfold goes
   rw [List.getElem?_append_right (Nat.le_refl _), Nat.sub_self]
   cases b <;> simp
  rw [hg, ih]
  cases b <;> simp
theorem keep_pick {α : Type} {rules : List α} {st : List Bool} (h : st.length = rules.length) : keepP (goes st) 0 rules = pick rules st := keep_from rules [] st h
theorem pick_get {α : Type} : ∀ (rs : List α) (st : List Bool) (i : Nat) (r : α), st.length = rs.length → rs[i]? = some r → st[i]? = some true → (pick rs st)[tru st i]? = some r
 | [], _, _, _, _, h, _ => by simp at h
 | x :: xs, [], _, _, h, _, _ => by simp at h
 | x :: xs, b :: bs, 0, r, hl, h, hs => by
  simp at h hs
  subst h; subst hs
  simp [pick, tru]
 | x :: xs, b :: bs, i + 1, r, hl, h, hs => by
  have ih := pick_get xs bs i r (by simpa using hl) (by simpa using h) (by simpa using hs)
  have ht : tru (b :: bs) (i + 1) = tru bs i + (if b = true then 1 else 0) := by
   unfold tru
   rw [List.take_succ_cons, List.count_cons]
   cases b <;> simp
  rw [ht]
  simp only [pick]
  cases b <;> simp [ih]
theorem pick_len {α : Type} : ∀ (rs : List α) (st : List Bool), st.length = rs.length → (pick rs st).length = tru st st.length
 | [], [], _ => rfl
 | [], b :: bs, h => by simp at h
 | x :: xs, [], h => by simp at h
 | x :: xs, b :: bs, h => by
  have ih := pick_len xs bs (by simpa using h)
  have ht : tru (b :: bs) (bs.length + 1) = tru bs bs.length + (if b = true then 1 else 0) := by
   unfold tru
   rw [List.take_succ_cons, List.count_cons]
   cases b <;> simp
  rw [List.length_cons, ht]
  simp only [pick]
  cases b <;> simp [ih]
section
variable {s t : B} {l m : List PNode} {rules qs : List PRule} {st : List Bool} {T : PT}
theorem FoldAs.left (F : FoldAs s t l m rules qs st T) {i : Nat} {r : PRule} (hr : rules[i]? = some r) (hs : st[i]? = some true) : ∃ q, qs[tru st i]? = some q ∧ { q with lo := r.lo, hi := r.hi } = r := by
 have h1 := F.kept
 rw [keep_pick (by rw [F.len, List.length_map])] at h1
 have h2 := pick_get (rules.map stripR) st i (stripR r) (by rw [F.len, List.length_map]) (by rw [List.getElem?_map, hr]; rfl) hs
 rw [← h1, List.getElem?_map, Option.map_eq_some_iff] at h2
 obtain ⟨q, hq, he⟩ := h2
 refine ⟨q, hq, ?_⟩
 cases q; cases r
 simp only [stripR, PRule.mk.injEq] at he ⊢
 obtain ⟨h1, h2, h3, _⟩ := he
 exact ⟨h1, h2, h3, trivial, trivial⟩
theorem FoldAs.left_len (F : FoldAs s t l m rules qs st T) : qs.length = tru st rules.length := by
 have h1 := congrArg List.length F.kept
 rw [keep_pick (by rw [F.len, List.length_map]), pick_len _ _ (by rw [F.len, List.length_map]), List.length_map, F.len] at h1
 exact h1
theorem tru_some (S : IsStays l rules st) (h : tru st rules.length ≠ 0) : ∃ r ∈ rules, r.media ≠ [] := by
 have hm : true ∈ st := by
  unfold tru at h
  have := List.count_pos_iff.1 (Nat.pos_of_ne_zero h)
  exact List.mem_of_mem_take this
 obtain ⟨j, hj⟩ := List.getElem?_of_mem hm
 exact stay_media ((S.iff j true hj).1 rfl)
def someM (rules : List PRule) (i : Nat) : Bool := (rules.take i).any fun r => !r.media.isEmpty
theorem someM_succ {rules : List PRule} {i : Nat} {r : PRule} (h : rules[i]? = some r) : someM rules (i + 1) = (someM rules i || !r.media.isEmpty) := by
 unfold someM
 rw [List.take_add_one, h, List.any_append]
 simp
theorem someM_end (S : IsStays l rules st) (h : someM rules rules.length = false) : tru st rules.length = 0 := by
 refine Classical.byContradiction fun hn => ?_
 obtain ⟨r, hr, hm⟩ := tru_some S hn
 unfold someM at h
 rw [List.take_length, List.any_eq_false] at h
 have := h r hr
 cases hx : r.media with
 | nil => exact hm hx
 | cons a b => rw [hx] at this; simp at this
def bareOf (a : PAttr) : PAttr := ⟨a.name, a.val, 0, 0⟩
def bare (al : List PAttr) : List PAttr := (al.filter fun a => !(a.name == styleName)).map bareOf
theorem bare_succ {al : List PAttr} {i : Nat} {a : PAttr} (h : al[i]? = some a) : bare (al.take (i + 1)) = bare (al.take i) ++ (if (a.name == styleName) = true then [] else [bareOf a]) := by
 unfold bare
 rw [List.take_add_one, h, List.filter_append, List.map_append]
 cases hb : a.name == styleName <;> simp [List.filter_cons, hb]
theorem bare_len (al : List PAttr) (i : Nat) : (bare (al.take i)).length ≤ i := by
 unfold bare
 rw [List.length_map]
 have := List.length_filter_le (fun a : PAttr => !(a.name == styleName)) (al.take i)
 have := List.length_take_le i al
 omega
theorem bare_noStyle (al : List PAttr) : bare al = (noStyle (al.map pr)).map fun p => ⟨p.1, p.2, 0, 0⟩ := by
 unfold bare noStyle
 rw [List.filter_map, List.map_map]
 rfl
theorem fold_bare (F : FoldAs s t l m rules qs st T) {k : Nat} {n n' : PNode} (hn : l[k]? = some n) (hn' : m[k]? = some n') : n'.name = n.name ∧ n'.parent = n.parent ∧ bare n'.attrs = bare n.attrs := by
 obtain ⟨h1, h2, h3⟩ := fold_keeps F hn hn'
 exact ⟨h1, h2, by rw [bare_noStyle, bare_noStyle, h3]⟩
def stillR (rules : List PRule) (i : Nat) : Bool := (rules.take i).all fun r => !r.media.isEmpty
theorem stillR_succ {rules : List PRule} {i : Nat} {r : PRule} (h : rules[i]? = some r) : stillR rules (i + 1) = (stillR rules i && !r.media.isEmpty) := by
 unfold stillR
 rw [List.take_add_one, h, List.all_append]
 simp
def stillA (al : List PAttr) (i : Nat) : Bool := (al.take i).all fun a => !(a.name == styleName)
theorem stillA_succ {al : List PAttr} {i : Nat} {a : PAttr} (h : al[i]? = some a) : stillA al (i + 1) = (stillA al i && !(a.name == styleName)) := by
 unfold stillA
 rw [List.take_add_one, h, List.all_append]
 simp
def stillN (l : List PNode) (i : Nat) : Bool := (l.take i).all fun n => stillA n.attrs n.attrs.length
theorem stillN_succ {l : List PNode} {i : Nat} {n : PNode} (h : l[i]? = some n) : stillN l (i + 1) = (stillN l i && stillA n.attrs n.attrs.length) := by
 unfold stillN
 rw [List.take_add_one, h, List.all_append]
 simp
theorem still_end (R : ReadAs s l rules T) (S : IsStays l rules st) (hf : fFold s l rules st = .ok t) (h1 : stillR rules rules.length = true) (h2 : stillN l l.length = true) : s = t := by
 unfold stillR at h1
 unfold stillN at h2
 rw [List.take_length, List.all_eq_true] at h1 h2
 have h3 := fold_nothing R S (fun r hr => by
  have := h1 r hr
  intro hx
  rw [hx] at this
  cases this) (fun n hn a ha => by
  have := h2 n hn
  unfold stillA at this
  rw [List.take_length, List.all_eq_true] at this
  simpa using this a ha)
 rw [h3] at hf
 cases hf
 rfl
theorem ReadAs.declared (R : ReadAs s l rules T) (media : List B) {k : Nat} (hk : k < l.length) : ∃ look, cDeclared l (k : Int) rules media = .ok look :=
 ⟨_, declared_eq (List.getElem?_eq_getElem hk) (fun r hr => plain_none R.plain r hr) R.own⟩
theorem ReadAs.bare (R : ReadAs s l rules T) (media : List B) {k : Nat} (hk : k < l.length) : ∃ look, cDeclared l (k : Int) [] media = .ok look :=
 ⟨_, declared_eq (List.getElem?_eq_getElem hk) (fun r hr => by cases hr) R.own⟩
theorem value_okF {rs : List PRule} {media : List B} {name : B} (h : ∀ k : Nat, k < l.length → ∃ look, cDeclared l (k : Int) rs media = .ok look) : ∀ (f k : Nat), k < l.length → k < f → ∃ v, cValueF f l (k : Int) rs media name = .ok v
 | 0, k, _, hf => by omega
 | f + 1, k, hk, hf => by
  obtain ⟨look, hl⟩ := h k hk
  simp only [cValueF, hl, Ans.ok_then]
  cases lookFind look name with
  | some d => exact ⟨_, rfl⟩
  | none =>
   simp only
   split
   ·rename_i hc
    simp only [Bool.and_eq_true, decide_eq_true_eq] at hc
    obtain ⟨⟨_, h0⟩, h1⟩ := hc
    obtain ⟨j, hj⟩ : ∃ j : Nat, parentOf l (k : Int).toNat = (j : Int) := ⟨(parentOf l (k : Int).toNat).toNat, by omega⟩
    rw [hj] at h1 ⊢
    exact value_okF h f j (by omega) (by omega)
   ·exact ⟨_, rfl⟩
theorem ReadAs.value (R : ReadAs s l rules T) (media : List B) (name : B) {k : Nat} (hk : k < l.length) : ∃ v, cValue l (k : Int) rules media name = .ok v :=
 value_okF (fun k hk => R.declared media hk) _ k hk (by simp)
end
def mname1 (acc : List B) (r : PRule) : List B := if (!r.media.isEmpty && !acc.contains r.media && decide (acc.length < 8)) = true then acc ++ [r.media] else acc
def mnames (rs : List PRule) : List B := rs.foldl mname1 []
def gset1 (out : List (List B)) (n : B) : List (List B) := out ++ out.map fun s => s ++ [n]
def gsets (ns : List B) : List (List B) := ns.foldl gset1 [[]]
theorem foldl_take {α β : Type} (f : β → α → β) (b : β) {xs : List α} {i : Nat} {x : α} (h : xs[i]? = some x) : (xs.take (i + 1)).foldl f b = f ((xs.take i).foldl f b) x := by
 rw [List.take_add_one, h, Option.toList_some, List.foldl_append]
 rfl
theorem mnames_take {rs : List PRule} {i : Nat} {r : PRule} (h : rs[i]? = some r) : mnames (rs.take (i + 1)) = mname1 (mnames (rs.take i)) r := foldl_take _ _ h
theorem gsets_take {ns : List B} {i : Nat} {n : B} (h : ns[i]? = some n) : gsets (ns.take (i + 1)) = gset1 (gsets (ns.take i)) n := foldl_take _ _ h
theorem mname1_len {acc : List B} (r : PRule) (h : acc.length ≤ 8) : (mname1 acc r).length ≤ 8 := by
 unfold mname1
 split
 ·rename_i hh
  simp only [Bool.and_eq_true, decide_eq_true_eq] at hh
  simp; omega
 ·exact h
theorem mfold_len : ∀ (rs : List PRule) (acc : List B), acc.length ≤ 8 → (rs.foldl mname1 acc).length ≤ 8
 | [], _, h => h
 | r :: rs, acc, h => mfold_len rs _ (mname1_len r h)
theorem mnames_len (rs : List PRule) : (mnames rs).length ≤ 8 := mfold_len rs [] (by simp)
theorem gset1_len (out : List (List B)) (n : B) : (gset1 out n).length = out.length + out.length := by simp [gset1]
theorem gfold_len : ∀ (ns : List B) (out : List (List B)), (ns.foldl gset1 out).length = out.length * 2 ^ ns.length
 | [], out => by simp
 | n :: ns, out => by
  rw [List.foldl_cons, gfold_len ns, gset1_len, List.length_cons, Nat.pow_succ]
  rw [← Nat.two_mul, Nat.mul_comm 2, Nat.mul_assoc, Nat.mul_comm 2]
theorem gsets_len (ns : List B) : (gsets ns).length = 2 ^ ns.length := by rw [gsets, gfold_len]; simp
theorem gsets_le {ns : List B} (h : ns.length ≤ 8) : (gsets ns).length ≤ 256 := by
 rw [gsets_len]
 exact Nat.le_trans (Nat.pow_le_pow_right (by omega) h) (by decide)
theorem gfold_each : ∀ (ns : List B) (out : List (List B)) (k : Nat), (∀ s ∈ out, s.length ≤ k) → ∀ s ∈ ns.foldl gset1 out, s.length ≤ k + ns.length
 | [], out, k, h => fun s hs => by simpa using h s hs
 | n :: ns, out, k, h => fun s hs => by
  have := gfold_each ns (gset1 out n) (k + 1) (fun x hx => by
   simp only [gset1, List.mem_append, List.mem_map] at hx
   rcases hx with hx | ⟨y, hy, rfl⟩
   ·have := h x hx; omega
   ·have := h y hy; simp; omega) s hs
  simp only [List.length_cons]; omega
theorem gsets_each {ns : List B} {s : List B} (h : s ∈ gsets ns) : s.length ≤ ns.length := by
 have := gfold_each ns [[]] 0 (by simp) s h
 omega
def gpart (out : List (List B)) (n : B) (j : Nat) : List (List B) := out ++ (out.take j).map fun s => s ++ [n]
theorem gpart_zero (out : List (List B)) (n : B) : gpart out n 0 = out := by simp [gpart]
theorem gpart_end (out : List (List B)) (n : B) : gpart out n out.length = gset1 out n := by simp [gpart, gset1]
theorem gpart_succ {out : List (List B)} {n : B} {j : Nat} {s : List B} (h : out[j]? = some s) : gpart out n (j + 1) = gpart out n j ++ [s ++ [n]] := by
 simp [gpart, List.take_add_one, h]
theorem gpart_len (out : List (List B)) (n : B) {j : Nat} (h : j ≤ out.length) : (gpart out n j).length = out.length + j := by
 simp only [gpart, List.length_append, List.length_map, List.length_take]; omega
def dnames (d : PDecl) : List B := [d.name, d.name ++ [45, 116, 111, 112], d.name ++ [45, 108, 101, 102, 116]]
def rnames (r : PRule) : List B := r.decls.flatMap dnames
def snames (name : B) (rs : List PRule) : List B := [name, [99, 111, 108, 111, 114], [115, 105, 122, 101]] ++ rs.flatMap rnames
theorem flatMap_take {α β : Type} (f : α → List β) {xs : List α} {i : Nat} {x : α} (h : xs[i]? = some x) : (xs.take (i + 1)).flatMap f = (xs.take i).flatMap f ++ f x := by
 rw [List.take_add_one, h, Option.toList_some, List.flatMap_append]
 simp
theorem rnames_len (r : PRule) : (rnames r).length = 3 * r.decls.length := by
 unfold rnames
 induction r.decls with
 | nil => rfl
 | cons d ds ih => rw [List.flatMap_cons, List.length_append, ih]; simp [dnames]; omega
end Go.Proofs.YtplbdlgmjehckacGreatDoor

