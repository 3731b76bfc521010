/-
  Plain Lean, no program: elements stand where they say.
-/
import Derived.Test.YtplbdlgmjehckabPgSpec
namespace Go.Proofs.Ytplbdlgmjehckab
set_option linter.unusedVariables false
set_option linter.unusedSimpArgs false

/-- the text from a up to b -/
def sub (s : B) (a b : Nat) : B := (s.drop a).take (b - a)
theorem sub_append (s : B) {a b c : Nat} (h1 : a ≤ b) (h2 : b ≤ c) : sub s a b ++ sub s b c = sub s a c := by
  unfold sub
  rw [show c - a = (b - a) + (c - b) from by omega, List.take_add, List.drop_drop, show a + (b - a) = b from by omega]
theorem sub_len (s : B) {a b : Nat} (h1 : a ≤ b) (h2 : b ≤ s.length) : (sub s a b).length = b - a := by
  unfold sub; rw [List.length_take, List.length_drop]; omega
theorem sub_of_prefix {s w : B} {a : Nat} (h : w.isPrefixOf (s.drop a) = true) : sub s a (a + w.length) = w := by
  unfold sub
  rw [Nat.add_sub_cancel_left]
  exact (List.prefix_iff_eq_take.1 (List.isPrefixOf_iff_prefix.1 h)).symm
theorem prefix_le {s w : B} {a : Nat} (h : w.isPrefixOf (s.drop a) = true) (hw : w ≠ []) : a + w.length ≤ s.length := by
  have := (List.isPrefixOf_iff_prefix.1 h).length_le
  have : 0 < w.length := List.length_pos_iff.2 hw
  rw [List.length_drop] at *
  omega

def Fine (s : B) {α : Type} (Q : α → Prop) : Ans α → Prop
  | .bad f => f.err ≠ 0 ∧ f.pos ≤ s.length
  | .ok x => Q x
theorem Fine.then {s : B} {α β : Type} {Q : α → Prop} {R : β → Prop} {r : Ans α} {k : α → Ans β} (h : Fine s Q r) (hk : ∀ x, Q x → Fine s R (k x)) : Fine s R (r.then k) := by
  cases r with
  | bad f => exact h
  | ok x => exact hk x h
theorem Fine.mono {s : B} {α : Type} {Q R : α → Prop} {r : Ans α} (h : Fine s Q r) (hk : ∀ x, Q x → R x) : Fine s R r := by
  cases r with
  | bad f => exact h
  | ok x => exact hk x h

theorem name_fact (s : B) (a : Nat) (ha : a ≤ s.length) :
    Fine s (fun x : B × B × Nat => x.1 = sub s a x.2.2 ∧ x.2.2 = a + x.1.length ∧ 1 ≤ x.1.length ∧ x.2.1 = s.drop x.2.2 ∧ x.2.2 ≤ s.length) (pName (s.drop a) a) := by
  unfold pName
  have h := nameLen_le (s.drop a)
  rw [List.length_drop] at h
  split
  · exact ⟨by simp, ha⟩
  · split
    · exact ⟨by simp, ha⟩
    · have e : ((s.drop a).take (nameLen (s.drop a))).length = nameLen (s.drop a) := by rw [List.length_take, List.length_drop]; omega
      refine ⟨?_, ?_, ?_, ?_, ?_⟩
      · show _ = sub s a (a + _); unfold sub; rw [Nat.add_sub_cancel_left]
      · show _ = a + List.length _; rw [e]
      · show 1 ≤ List.length _; rw [e]; omega
      · show List.drop _ _ = _; rw [List.drop_drop]
      · show a + _ ≤ _; omega

theorem must_fact (s w : B) (a : Nat) (ha : a ≤ s.length) (hw : w ≠ []) :
    Fine s (fun x : B × Nat => sub s a x.2 = w ∧ x.2 = a + w.length ∧ x.1 = s.drop x.2 ∧ x.2 ≤ s.length) (pMust w (s.drop a) a) := by
  unfold pMust
  split
  · rename_i h
    exact ⟨sub_of_prefix h, rfl, by show List.drop _ _ = _; rw [List.drop_drop], prefix_le h hw⟩
  · exact ⟨by simp, ha⟩

/-- an attribute stands where it says, from lo on -/
def APl (s : B) (lo : Nat) (x : PAttr) : Prop :=
  ∃ b c : Nat, x.lo = b ∧ x.hi = c ∧ lo ≤ b ∧ b ≤ c ∧ c ≤ s.length ∧ sub s b c = [32] ++ x.name ++ [61, 34] ++ x.val ++ [34]

theorem attr_fact (s : B) (al : List PAttr) (a : Nat) (h : ([32] : B).isPrefixOf (s.drop a) = true) :
    Fine s (fun x : PAttr × B × Nat => APl s a x.1 ∧ x.2.1 = s.drop x.2.2 ∧ a ≤ x.2.2 ∧ x.2.2 ≤ s.length) (pAttr al (s.drop a) a) := by
  have h1 : a + 1 ≤ s.length := prefix_le h (by simp)
  have h2 : sub s a (a + 1) = [32] := sub_of_prefix h
  unfold pAttr
  rw [List.drop_drop]
  refine (name_fact s (a + 1) h1).then ?_
  rintro ⟨nm, l2, a2⟩ ⟨hn, ha2, hn1, he_, hl2⟩
  dsimp only at *
  subst he_
  split
  · exact ⟨by simp; split <;> decide, h1⟩
  · refine (must_fact s [61, 34] a2 hl2 (by simp)).then ?_
    rintro ⟨l3, a3⟩ ⟨he, ha3, he_, hl3⟩
    dsimp only at *
    subst he_
    rw [List.drop_drop]
    have hv : a3 + (pVal (s.drop a3)).length ≤ s.length := by
      have := takeWhile_len_le isVal (s.drop a3)
      rw [List.length_drop] at this
      unfold pVal; omega
    refine (must_fact s [34] _ hv (by simp)).then ?_
    rintro ⟨l5, a5⟩ ⟨he5, ha5, he_, hl5⟩
    dsimp only at *
    subst he_
    simp only [List.length_cons, List.length_nil] at ha3 ha5
    refine ⟨⟨a, a5, rfl, rfl, Nat.le_refl _, by omega, hl5, ?_⟩, rfl, by show a ≤ a5; omega, hl5⟩
    have hval : sub s a3 (a3 + (pVal (s.drop a3)).length) = pVal (s.drop a3) := by
      unfold sub; rw [Nat.add_sub_cancel_left]; exact takeWhile_take isVal _
    rw [← sub_append s (show a ≤ a3 + (pVal (s.drop a3)).length from by omega) (show _ ≤ a5 from by omega), ← sub_append s (show a ≤ a3 from by omega) (show a3 ≤ a3 + (pVal (s.drop a3)).length from by omega),
      ← sub_append s (show a ≤ a2 from by omega) (show a2 ≤ a3 from by omega), ← sub_append s (show a ≤ a + 1 from by omega) (show a + 1 ≤ a2 from by omega), h2, ← hn, he, hval, he5]

theorem attrs_fact (s : B) (lo : Nat) : ∀ (f : Nat) (al : List PAttr) (a : Nat), a ≤ s.length → lo ≤ a → (∀ x ∈ al, APl s lo x) →
    Fine s (fun x : List PAttr × B × Nat => (∀ y ∈ x.1, APl s lo y) ∧ x.2.1 = s.drop x.2.2 ∧ a ≤ x.2.2 ∧ x.2.2 ≤ s.length) (pAttrs f al (s.drop a) a)
  | 0, _, _, _, _, _ => ⟨by simp, Nat.zero_le _⟩
  | f + 1, al, a, ha, hlo, h => by
    unfold pAttrs
    split
    · rename_i hp
      refine (attr_fact s al a hp).then ?_
      rintro ⟨x, l', a'⟩ ⟨hx, he_, h1, h2⟩
      dsimp only at *
      subst he_
      refine (attrs_fact s lo f (al ++ [x]) a' h2 (by omega) ?_).mono ?_
      · intro y hy
        rcases List.mem_append.1 hy with hy | hy
        · exact h y hy
        · rw [List.mem_singleton] at hy; subst hy
          obtain ⟨b, c, e1, e2, e3, rest⟩ := hx
          exact ⟨b, c, e1, e2, by omega, rest⟩
      · rintro ⟨al2, l2, a2⟩ ⟨q1, q2, q3, q4⟩
        exact ⟨q1, q2, by dsimp only at *; omega, q4⟩
    · exact ⟨h, rfl, Nat.le_refl _, ha⟩

/-- an element's name and attributes stand where they say -/
def TagPl (s : B) (n : PNode) : Prop :=
  ∃ e : Nat, n.nameEnd = e ∧ e ≤ s.length ∧ n.name.length + 1 ≤ e ∧ sub s (e - n.name.length - 1) e = [60] ++ n.name ∧ ∀ x ∈ n.attrs, APl s e x
def InPl (s : B) (n : PNode) : Prop := ∃ p q : Nat, n.inF = p ∧ n.inT = q ∧ p ≤ q ∧ q ≤ s.length
def NPl (s : B) (i : Nat) (n : PNode) : Prop := -1 ≤ n.parent ∧ n.parent < i ∧ TagPl s n ∧ InPl s n

theorem open_fact (s : B) (parent : Int) (deep count a : Nat) (ha : a ≤ s.length) :
    Fine s (fun x : PNode × B × Nat => x.1.parent = parent ∧ x.1.inF = 0 ∧ x.1.inT = 0 ∧ TagPl s x.1 ∧ x.2.1 = s.drop x.2.2 ∧ a ≤ x.2.2 ∧ x.2.2 ≤ s.length) (pOpen parent deep count (s.drop a) a) := by
  unfold pOpen
  split
  · exact ⟨by simp, ha⟩
  split
  · exact ⟨by simp, ha⟩
  refine (must_fact s [60] a ha (by simp)).then ?_
  rintro ⟨l1, a1⟩ ⟨h1, h2, he_, h3⟩
  dsimp only at *
  subst he_
  simp only [List.length_cons, List.length_nil] at h2
  refine (name_fact s a1 h3).then ?_
  rintro ⟨nm, l2, a2⟩ ⟨hn, ha2, hn1, he_, hl2⟩
  dsimp only at *
  subst he_
  refine (attrs_fact s a2 _ [] a2 hl2 (Nat.le_refl _) (fun x hx => by cases hx)).then ?_
  rintro ⟨al, l3, a3⟩ ⟨g1, he_, g2, g3⟩
  dsimp only at *
  subst he_
  refine (must_fact s [62] a3 g3 (by simp)).then ?_
  rintro ⟨l4, a4⟩ ⟨k1, k2, he_, k3⟩
  dsimp only at *
  subst he_
  simp only [List.length_cons, List.length_nil] at k2
  refine ⟨rfl, rfl, rfl, ⟨a2, rfl, hl2, by show nm.length + 1 ≤ a2; omega, ?_, g1⟩, rfl, by show a ≤ a4; omega, k3⟩
  show sub s (a2 - nm.length - 1) a2 = [60] ++ nm
  rw [show a2 - nm.length - 1 = a from by omega, ← sub_append s (show a ≤ a1 from by omega) (show a1 ≤ a2 from by omega), h1, ← hn]

/-- what holds of the elements that were read, and of where the reader stands -/
def NodesPl (s : B) (ns : List PNode) : Prop := ∀ i n, ns[i]? = some n → NPl s i n
def After (s : B) (a : Nat) (ns : List PNode) (x : List PNode × B × Nat) : Prop := NodesPl s x.1 ∧ ns.length ≤ x.1.length ∧ a ≤ x.2.2 ∧ x.2.2 ≤ s.length ∧ x.2.1 = s.drop x.2.2

theorem NodesPl.push {s : B} {ns : List PNode} {n : PNode} (h : NodesPl s ns) (hn : NPl s ns.length n) : NodesPl s (ns ++ [n]) := by
  intro i m hm
  by_cases hi : i < ns.length
  · rw [List.getElem?_append_left hi] at hm; exact h i m hm
  · have hi2 := (List.getElem?_eq_some_iff.1 hm).1
    simp at hi2
    have : i = ns.length := by omega
    subst this
    simp at hm
    subst hm; exact hn

theorem elem_fact (s : B) (items : Int → Nat → List PNode → B → Nat → Ans (List PNode × B × Nat))
    (hit : ∀ (parent : Int) (deep : Nat) (ns : List PNode) (a : Nat), -1 ≤ parent → parent < ns.length → NodesPl s ns → a ≤ s.length → Fine s (After s a ns) (items parent deep ns (s.drop a) a))
    (parent : Int) (deep : Nat) (ns : List PNode) (a : Nat) (hp : -1 ≤ parent) (hp2 : parent < ns.length) (hns : NodesPl s ns) (ha : a ≤ s.length) :
    Fine s (After s a ns) (pElem items parent deep ns (s.drop a) a) := by
  unfold pElem
  refine (open_fact s parent deep ns.length a ha).then ?_
  rintro ⟨n, l1, a1⟩ ⟨h1, h2, h3, h4, he_, h6, h7⟩
  dsimp only at *
  subst he_
  have hin : Fine s (After s a1 (ns ++ [n])) (pInside items deep ns n (s.drop a1) a1) := by
    unfold pInside
    split
    · cases hf : findSub styleEnd (s.drop a1) with
      | none => exact ⟨by simp, by simp; omega⟩
      | some e =>
        have := findSub_le _ _ _ hf
        rw [List.length_drop] at this
        refine ⟨hns.push ⟨by rw [← h1] at hp; exact hp, by rw [← h1] at hp2; exact hp2, h4, ⟨a1, a1 + e, rfl, rfl, by omega, by omega⟩⟩, by simp, by show a1 ≤ a1 + e; omega, by show a1 + e ≤ _; omega, by show List.drop _ _ = _; rw [List.drop_drop]⟩
    · refine hit _ _ _ _ (by omega) (by simp; omega) (hns.push ⟨by rw [h1]; exact hp, by rw [h1]; exact hp2, h4, ⟨0, 0, h2, h3, Nat.le_refl _, Nat.zero_le _⟩⟩) h7
  refine hin.then ?_
  rintro ⟨ns2, l2, a2⟩ ⟨g1, g2, g3, g4, g5⟩
  dsimp only at *
  subst g5
  refine (must_fact s _ a2 g4 (by simp)).then ?_
  rintro ⟨l3, a3⟩ ⟨k1, k2, he_, k4⟩
  dsimp only at *
  subst he_
  simp only [List.length_append, List.length_cons, List.length_nil] at g2
  exact ⟨g1, by show ns.length ≤ ns2.length; omega, by show a ≤ a3; omega, k4, rfl⟩

theorem items_fact (s : B) : ∀ (f : Nat) (parent : Int) (deep : Nat) (ns : List PNode) (a : Nat), -1 ≤ parent → parent < ns.length → NodesPl s ns → a ≤ s.length →
    Fine s (After s a ns) (pItems f parent deep ns (s.drop a) a)
  | 0, _, _, _, _, _, _, _, _ => ⟨by simp, Nat.zero_le _⟩
  | f + 1, parent, deep, ns, a, hp, hp2, hns, ha => by
    have stop : After s a ns (ns, s.drop a, a) := ⟨hns, Nat.le_refl _, Nat.le_refl _, ha, rfl⟩
    by_cases hlt : a < s.length
    · have step : ∀ a', a ≤ a' → a' ≤ s.length → Fine s (After s a ns) (pItems f parent deep ns (s.drop a') a') := fun a' h1 h2 =>
        (items_fact s f parent deep ns a' hp hp2 hns h2).mono fun x hx => ⟨hx.1, hx.2.1, Nat.le_trans h1 hx.2.2.1, hx.2.2.2⟩
      have e := List.drop_eq_getElem_cons hlt
      have el : (s[a] :: s.drop (a + 1)).length = s.length - a := by rw [← e]; exact List.length_drop
      have ed : ∀ k, (s[a] :: s.drop (a + 1)).drop k = s.drop (a + k) := fun k => by rw [← e, List.drop_drop]
      rw [e, pItems, el, show a + (s.length - a) = s.length from by omega]
      simp only [ed]
      split
      · rw [← e]; exact stop
      · split
        · rename_i hnb
          rw [← e] at hnb
          have h4 := prefix_le hnb (by simp [noteBegin])
          cases hf : findSub noteEnd (s.drop (a + 4)) with
          | none => exact ⟨by simp, by simp⟩
          | some k =>
            have := findSub_le _ _ _ hf
            rw [List.length_drop] at this
            have hl3 : noteEnd.length = 3 := rfl
            have hl4 : noteBegin.length = 4 := rfl
            exact step _ (by omega) (by omega)
        · split
          · rw [← e]
            refine (elem_fact s (pItems f) (fun p d n b x1 x2 x3 x4 => items_fact s f p d n b x1 x2 x3 x4) parent deep ns a hp hp2 hns ha).then ?_
            rintro ⟨ns2, l2, a2⟩ ⟨g1, g2, g3, g4, g5⟩
            dsimp only at *
            subst g5
            exact (items_fact s f parent deep ns2 a2 hp (by omega) g1 g4).mono fun x hx => ⟨hx.1, Nat.le_trans g2 hx.2.1, Nat.le_trans g3 hx.2.2.1, hx.2.2.2⟩
          · split
            · exact step _ (by omega) (by omega)
            · exact ⟨by simp, by simp; omega⟩
    · have e0 : s.drop a = [] := List.drop_of_length_le (by omega)
      rw [e0] at stop ⊢
      rw [pItems]
      exact stop

theorem parse_fact (s : B) : Fine s (NodesPl s) (pParse s) := by
  unfold pParse
  split
  · exact ⟨by simp, Nat.zero_le _⟩
  · have := items_fact s (s.length + 1) (-1) 1 [] 0 (by omega) (by simp) (fun i n h => by simp at h) (Nat.zero_le _)
    rw [List.drop_zero] at this
    refine this.then ?_
    rintro ⟨ns, l, a⟩ ⟨h1, h2, h3, h4, h5⟩
    dsimp only at *
    split
    · exact h1
    · exact ⟨by simp, by simpa using h4⟩

end Go.Proofs.Ytplbdlgmjehckab
