/-
  Plain Lean, no program: what a page's text reads as, where it stands within another page.
-/
import Derived.Test.YtplbdlgmjehckaaPgPlain
namespace Go.Proofs.Ytplbdlgmjehckaa
set_option linter.unusedVariables false
set_option linter.unusedSimpArgs false

theorem prefix_app {w l : B} (h : w.isPrefixOf l = true) (t : B) : w.isPrefixOf (l ++ t) = true :=
  List.isPrefixOf_iff_prefix.2 ((List.isPrefixOf_iff_prefix.1 h).trans (List.prefix_append _ _))
theorem prefix_no {w l : B} (h : w.isPrefixOf l = false) (hl : w.length ≤ l.length) (t : B) : w.isPrefixOf (l ++ t) = false := by
  cases hx : w.isPrefixOf (l ++ t) with
  | false => rfl
  | true =>
    have h1 := List.isPrefixOf_iff_prefix.1 hx
    have h2 : w <+: l := List.prefix_of_prefix_length_le h1 (List.prefix_append l t) hl
    rw [List.isPrefixOf_iff_prefix.2 h2] at h; cases h
theorem prefix_len {w l : B} (h : w.isPrefixOf l = true) : w.length ≤ l.length := (List.isPrefixOf_iff_prefix.1 h).length_le

theorem takeWhile_app {p : UInt8 → Bool} {l : B} (h : (l.takeWhile p).length < l.length) (t : B) : (l ++ t).takeWhile p = l.takeWhile p := by
  rw [List.takeWhile_append, if_neg (by omega)]

theorem nameLen_app {l : B} (h : nameLen l < l.length) (t : B) : nameLen (l ++ t) = nameLen l := by
  cases l with
  | nil => simp at h
  | cons c r =>
    simp only [List.cons_append, nameLen]
    split
    · rename_i hc
      simp only [nameLen, hc, if_true, List.length_cons] at h
      rw [takeWhile_app (by omega)]
    · rfl

theorem findSub_app {w : B} : ∀ {l : B} {e : Nat} (t : B), findSub w l = some e → findSub w (l ++ t) = some e
  | [], e, t, h => by
    simp only [findSub] at h
    split at h
    · rename_i hw
      cases h
      rw [List.isEmpty_iff] at hw
      subst hw
      cases t with
      | nil => rfl
      | cons c r => simp [findSub, List.isPrefixOf]
    · cases h
  | c :: r, e, t, h => by
    have hle := findSub_le _ _ _ h
    simp only [findSub] at h
    simp only [List.cons_append, findSub]
    cases hp : w.isPrefixOf (c :: r) with
    | true =>
      rw [hp, if_pos rfl] at h
      cases h
      rw [show c :: (r ++ t) = (c :: r) ++ t from rfl, prefix_app hp, if_pos rfl]
    | false =>
      rw [hp, if_neg (by simp)] at h
      rw [show c :: (r ++ t) = (c :: r) ++ t from rfl, prefix_no hp (by omega), if_neg (by simp)]
      cases hf : findSub w r with
      | none => rw [hf] at h; cases h
      | some k => rw [hf] at h; rw [findSub_app t hf]; exact h

/-- how a page stands within another: the elements ahead of it, the parent of its outermost ones, how far on it stands, how much deeper, what follows it -/
structure Sft where
  pre : List PNode
  q : Int
  d : Nat
  dd : Nat
  t : B

def Sft.a (S : Sft) (x : PAttr) : PAttr := { x with lo := x.lo + S.d, hi := x.hi + S.d }
def Sft.p (S : Sft) (p : Int) : Int := if 0 ≤ p then p + S.pre.length else S.q
def Sft.n0 (S : Sft) (n : PNode) : PNode := { n with parent := S.p n.parent, attrs := n.attrs.map S.a, nameEnd := n.nameEnd + S.d }
def Sft.n (S : Sft) (n : PNode) : PNode := if n.name = styleName then { S.n0 n with inF := n.inF + S.d, inT := n.inT + S.d } else S.n0 n
def Sft.ns (S : Sft) (ns : List PNode) : List PNode := S.pre ++ ns.map S.n
theorem Sft.ns_len (S : Sft) (ns : List PNode) : (S.ns ns).length = S.pre.length + ns.length := by simp [Sft.ns]
theorem Sft.ns_push (S : Sft) (ns : List PNode) (n : PNode) : S.ns (ns ++ [n]) = S.ns ns ++ [S.n n] := by simp [Sft.ns]

theorem name_sim (S : Sft) {l l' nm : B} {a a' : Nat} (h : pName l a = .ok (nm, l', a')) (hl : l' ≠ []) : pName (l ++ S.t) (a + S.d) = .ok (nm, l' ++ S.t, a' + S.d) := by
  unfold pName at h
  split at h
  · cases h
  · split at h
    · cases h
    · cases h
      have h1 : nameLen l < l.length := by
        rcases Nat.lt_or_ge (nameLen l) l.length with x | x
        · exact x
        · exact absurd (List.drop_of_length_le x) hl
      unfold pName
      rw [nameLen_app h1, if_neg (by assumption), if_neg (by assumption), List.take_append_of_le_length (by omega), List.drop_append_of_le_length (by omega)]
      simp only [Ans.ok.injEq, Prod.mk.injEq, true_and]
      omega

theorem must_sim (S : Sft) {w l l' : B} {a a' : Nat} (h : pMust w l a = .ok (l', a')) : pMust w (l ++ S.t) (a + S.d) = .ok (l' ++ S.t, a' + S.d) ∧ (w ≠ [] → l ≠ []) := by
  unfold pMust at h
  split at h
  · rename_i hp
    cases h
    refine ⟨?_, fun hw hl => ?_⟩
    · unfold pMust
      rw [prefix_app hp, if_pos rfl, List.drop_append_of_le_length (prefix_len hp)]
      simp only [Ans.ok.injEq, Prod.mk.injEq, true_and]
      omega
    · subst hl
      have := prefix_len hp
      simp at this
      exact hw this
  · cases h

theorem attr_sim (S : Sft) {al : List PAttr} {l l' : B} {a a' : Nat} {x : PAttr} (h : pAttr al l a = .ok (x, l', a')) : pAttr (al.map S.a) (l ++ S.t) (a + S.d) = .ok (S.a x, l' ++ S.t, a' + S.d) := by
  unfold pAttr at h
  cases h1 : pName (l.drop 1) (a + 1) with
  | bad f => rw [h1] at h; cases h
  | ok y =>
    obtain ⟨nm, l2, a2⟩ := y
    rw [h1] at h
    simp only [Ans.ok_then] at h
    split at h
    · cases h
    · rename_i hany
      cases h2 : pMust [61, 34] l2 a2 with
      | bad f => rw [h2] at h; cases h
      | ok z =>
        obtain ⟨l3, a3⟩ := z
        rw [h2] at h
        simp only [Ans.ok_then] at h
        cases h3 : pMust [34] (l3.drop (pVal l3).length) (a3 + (pVal l3).length) with
        | bad f => rw [h3] at h; cases h
        | ok z =>
          obtain ⟨l5, a5⟩ := z
          rw [h3] at h
          simp only [Ans.ok_then, Ans.ok.injEq, Prod.mk.injEq] at h
          obtain ⟨rfl, rfl, rfl⟩ := h
          have m2 := must_sim S h2
          have m3 := must_sim S h3
          have m1 := name_sim S h1 (m2.2 (by simp))
          have hl0 : 1 ≤ l.length := by
            cases l with
            | nil => simp [pName, nameLen] at h1
            | cons _ _ => simp
          have hv : (pVal l3).length < l3.length := by
            have := m3.2 (by simp)
            rcases Nat.lt_or_ge (pVal l3).length l3.length with x | x
            · exact x
            · exact absurd (List.drop_of_length_le x) this
          have hpv : pVal (l3 ++ S.t) = pVal l3 := takeWhile_app hv _
          unfold pAttr
          rw [List.drop_append_of_le_length hl0, show a + S.d + 1 = a + 1 + S.d from by omega, m1]
          simp only [Ans.ok_then]
          rw [if_neg (by
            simp only [List.any_map, List.length_map]
            exact hany), m2.1]
          simp only [Ans.ok_then]
          rw [hpv, List.drop_append_of_le_length (Nat.le_of_lt hv), show a3 + S.d + (pVal l3).length = a3 + (pVal l3).length + S.d from by omega, m3.1]
          simp only [Ans.ok_then, Sft.a]
          simp

theorem attrs_sim (S : Sft) : ∀ (f f' : Nat) (al al' : List PAttr) (l l' : B) (a a' : Nat), f ≤ f' → pAttrs f al l a = .ok (al', l', a') → l' ≠ [] →
    pAttrs f' (al.map S.a) (l ++ S.t) (a + S.d) = .ok (al'.map S.a, l' ++ S.t, a' + S.d)
  | 0, _, _, _, _, _, _, _, _, h, _ => by cases h
  | f + 1, 0, _, _, _, _, _, _, hf, _, _ => by omega
  | f + 1, f' + 1, al, al', l, l', a, a', hf, h, hl => by
    unfold pAttrs at h
    unfold pAttrs
    split at h
    · rename_i hp
      rw [prefix_app hp, if_pos rfl]
      cases h1 : pAttr al l a with
      | bad g => rw [h1] at h; cases h
      | ok x =>
        obtain ⟨b, l2, a2⟩ := x
        rw [h1] at h
        simp only [Ans.ok_then] at h
        rw [attr_sim S h1]
        simp only [Ans.ok_then]
        have := attrs_sim S f f' _ _ _ _ _ _ (by omega) h hl
        simpa using this
    · rename_i hp
      simp only [Ans.ok.injEq, Prod.mk.injEq] at h
      obtain ⟨rfl, rfl, rfl⟩ := h
      have hlen : 1 ≤ l.length := List.length_pos_iff.2 hl
      rw [prefix_no (Bool.eq_false_iff.2 hp) (by simpa using hlen), if_neg (by simp)]

theorem open_sim (S : Sft) {parent : Int} {deep count : Nat} {l l' : B} {a a' : Nat} {n : PNode} (h : pOpen parent deep count l a = .ok (n, l', a')) (hd : deep + S.dd ≤ 20) (hc : S.pre.length + count ≠ 120) :
    pOpen (S.p parent) (deep + S.dd) (S.pre.length + count) (l ++ S.t) (a + S.d) = .ok (S.n0 n, l' ++ S.t, a' + S.d) ∧ n.parent = parent ∧ n.inF = 0 ∧ n.inT = 0 ∧ ∃ c r, l = 60 :: c :: r ∧ isLow c = true := by
  unfold pOpen at h
  split at h
  · cases h
  split at h
  · cases h
  cases h1 : pMust [60] l a with
  | bad f => rw [h1] at h; cases h
  | ok y =>
    obtain ⟨l1, a1⟩ := y
    rw [h1] at h
    simp only [Ans.ok_then] at h
    cases h2 : pName l1 a1 with
    | bad f => rw [h2] at h; cases h
    | ok y =>
      obtain ⟨nm, l2, a2⟩ := y
      rw [h2] at h
      simp only [Ans.ok_then] at h
      cases h3 : pAttrs (l2.length + 1) [] l2 a2 with
      | bad f => rw [h3] at h; cases h
      | ok y =>
        obtain ⟨al, l3, a3⟩ := y
        rw [h3] at h
        simp only [Ans.ok_then] at h
        cases h4 : pMust [62] l3 a3 with
        | bad f => rw [h4] at h; cases h
        | ok y =>
          obtain ⟨l4, a4⟩ := y
          rw [h4] at h
          simp only [Ans.ok_then, Ans.ok.injEq, Prod.mk.injEq] at h
          obtain ⟨rfl, rfl, rfl⟩ := h
          have m1 := must_sim S h1
          have m4 := must_sim S h4
          have hl3 : l3 ≠ [] := m4.2 (by simp)
          have hl2 : l2 ≠ [] := by
            intro he
            subst he
            simp only [pAttrs, List.isPrefixOf] at h3
            cases h3
            exact hl3 rfl
          have m2 := name_sim S h2 hl2
          have m3 := attrs_sim S _ ((l2 ++ S.t).length + 1) _ _ _ _ _ _ (by simp) h3 hl3
          refine ⟨?_, rfl, rfl, rfl, ?_⟩
          · unfold pOpen
            rw [if_neg (by omega), if_neg hc, m1.1]
            simp only [Ans.ok_then]
            rw [m2]
            simp only [Ans.ok_then]
            rw [show ([] : List PAttr) = ([] : List PAttr).map S.a from rfl, m3]
            simp only [Ans.ok_then]
            rw [m4.1]
            simp [Sft.n0]
          · unfold pMust at h1
            split at h1
            · rename_i hp
              cases h1
              cases l with
              | nil => simp [List.isPrefixOf] at hp
              | cons c0 r0 =>
                simp [List.isPrefixOf] at hp
                subst hp
                cases r0 with
                | nil => simp [pName, nameLen] at h2
                | cons c r =>
                  refine ⟨c, r, rfl, ?_⟩
                  unfold pName at h2
                  split at h2
                  · cases h2
                  · rename_i hn
                    simp only [List.length_singleton, List.drop_succ_cons, List.drop_zero, nameLen] at hn
                    cases hc2 : isLow c with
                    | true => rfl
                    | false => simp [hc2] at hn
            · cases h1

def Bad4 {α : Type} (r : Ans α) : Prop := ∃ p, r = .bad ⟨4, p⟩
def Sft.why (S : Sft) (ns : List PNode) : Prop := 0 < S.dd ∨ 120 < S.pre.length + ns.length

def ItSim (S : Sft) (f : Nat) : Prop := ∀ (g : Nat) (parent : Int) (deep : Nat) (ns ns' : List PNode) (l l' : B) (a a' : Nat), pItems f parent deep ns l a = .ok (ns', l', a') →
  ns.length ≤ ns'.length ∧ ((Bad4 (pItems (f + g) (S.p parent) (deep + S.dd) (S.ns ns) (l ++ S.t) (a + S.d)) ∧ S.why ns') ∨
    ∃ g', g < g' ∧ pItems (f + g) (S.p parent) (deep + S.dd) (S.ns ns) (l ++ S.t) (a + S.d) = pItems g' (S.p parent) (deep + S.dd) (S.ns ns') (l' ++ S.t) (a' + S.d))

theorem elem_sim (S : Sft) (f : Nat) (ih : ItSim S f) (g : Nat) {parent : Int} {deep : Nat} {ns ns' : List PNode} {l l' : B} {a a' : Nat} (h : pElem (pItems f) parent deep ns l a = .ok (ns', l', a')) :
    ns.length < ns'.length ∧ (∃ c r, l = 60 :: c :: r ∧ isLow c = true) ∧ ((Bad4 (pElem (pItems (f + g)) (S.p parent) (deep + S.dd) (S.ns ns) (l ++ S.t) (a + S.d)) ∧ S.why ns') ∨
      pElem (pItems (f + g)) (S.p parent) (deep + S.dd) (S.ns ns) (l ++ S.t) (a + S.d) = .ok (S.ns ns', l' ++ S.t, a' + S.d)) := by
  unfold pElem at h
  cases h1 : pOpen parent deep ns.length l a with
  | bad x => rw [h1] at h; cases h
  | ok y =>
    obtain ⟨n, l1, a1⟩ := y
    rw [h1] at h
    simp only [Ans.ok_then] at h
    cases h2 : pInside (pItems f) deep ns n l1 a1 with
    | bad x => rw [h2] at h; cases h
    | ok y =>
      obtain ⟨ns2, l2, a2⟩ := y
      rw [h2] at h
      simp only [Ans.ok_then] at h
      cases h3 : pMust ([60, 47] ++ n.name ++ [62]) l2 a2 with
      | bad x => rw [h3] at h; cases h
      | ok y =>
        obtain ⟨l3, a3⟩ := y
        rw [h3] at h
        simp only [Ans.ok_then, Ans.ok.injEq, Prod.mk.injEq] at h
        obtain ⟨rfl, rfl, rfl⟩ := h
        have m3 := must_sim S h3
        have hp2 : ([60, 47] : B).isPrefixOf l2 = true := by
          unfold pMust at h3
          split at h3
          · rename_i hp
            exact List.isPrefixOf_iff_prefix.2 (List.IsPrefix.trans ⟨n.name ++ [62], by simp⟩ (List.isPrefixOf_iff_prefix.1 hp))
          · cases h3
        -- how long the list becomes
        have hlen : ns.length < ns2.length ∧ (∀ hs : n.name ≠ styleName, (ns ++ [n]).length ≤ ns2.length) := by
          unfold pInside at h2
          split at h2
          · rename_i hs
            split at h2
            · cases h2
            · cases h2; exact ⟨by simp, fun hh => absurd hs hh⟩
          · have := (ih g _ _ _ _ _ _ _ _ h2).1
            exact ⟨by simp at this; omega, fun _ => this⟩
        obtain ⟨hlen, hlen2⟩ := hlen
        have hlow : ∃ c r, l = 60 :: c :: r ∧ isLow c = true := by
          have := open_sim ⟨[], 0, 0, 0, []⟩ h1 (by
            unfold pOpen at h1
            split at h1
            · cases h1
            · show deep + 0 ≤ 20; omega) (by
            unfold pOpen at h1
            split at h1
            · cases h1
            · split at h1
              · cases h1
              · simpa using by assumption)
          exact this.2.2.2.2
        refine ⟨hlen, hlow, ?_⟩
        by_cases hd : deep + S.dd ≤ 20
        · by_cases hc : S.pre.length + ns.length ≠ 120
          · obtain ⟨m1, hpar, hF, hT, _⟩ := open_sim S h1 hd hc
            unfold pElem
            rw [S.ns_len, m1]
            simp only [Ans.ok_then]
            have hnm : (S.n0 n).name = n.name := rfl
            rw [hnm]
            by_cases hs : n.name = styleName
            · right
              unfold pInside at h2 ⊢
              rw [if_pos hs] at h2
              rw [if_pos (by rw [hnm]; exact hs)]
              cases hf : findSub styleEnd l1 with
              | none => rw [hf] at h2; cases h2
              | some e =>
                rw [hf] at h2
                simp only [Ans.ok.injEq, Prod.mk.injEq] at h2
                obtain ⟨rfl, rfl, rfl⟩ := h2
                have hfl := findSub_le _ _ _ hf
                rw [findSub_app S.t hf]
                simp only [Ans.ok_then]
                rw [List.drop_append_of_le_length (by omega), show a1 + S.d + e = a1 + e + S.d from by omega, m3.1]
                simp only [Ans.ok_then, Ans.ok.injEq, Prod.mk.injEq, and_true]
                rw [S.ns_push]
                congr 2
                unfold Sft.n
                rw [if_pos hs]
                simp [Sft.n0]
            · unfold pInside at h2 ⊢
              rw [if_neg hs] at h2
              rw [if_neg (by rw [hnm]; exact hs)]
              have hn : S.n0 n = S.n n := by unfold Sft.n; rw [if_neg hs]
              have hP : ((S.ns ns).length : Int) = S.p (ns.length : Int) := by
                unfold Sft.p; rw [if_pos (by omega), S.ns_len]; omega
              rcases (ih g _ _ _ _ _ _ _ _ h2).2 with ⟨hb, hw⟩ | ⟨g', hg', hb⟩
              · left
                refine ⟨?_, hw⟩
                obtain ⟨p, hb⟩ := hb
                rw [hn, ← S.ns_push, hP, show deep + S.dd + 1 = deep + 1 + S.dd from by omega, hb]
                exact ⟨p, rfl⟩
              · right
                rw [hn, ← S.ns_push, hP, show deep + S.dd + 1 = deep + 1 + S.dd from by omega, hb]
                have hstop : pItems g' (S.p (ns.length : Int)) (deep + 1 + S.dd) (S.ns ns2) (l2 ++ S.t) (a2 + S.d) = .ok (S.ns ns2, l2 ++ S.t, a2 + S.d) := by
                  cases g' with
                  | zero => omega
                  | succ k =>
                    have hpx := prefix_app hp2 S.t
                    cases hx : l2 ++ S.t with
                    | nil => rfl
                    | cons c r =>
                      rw [hx] at hpx
                      rw [pItems, hpx, if_pos rfl]
                rw [hstop]
                simp only [Ans.ok_then]
                rw [m3.1]
                rfl
          · left
            have hc' : S.pre.length + ns.length = 120 := by omega
            refine ⟨?_, .inr (by omega)⟩
            unfold pElem pOpen
            rw [S.ns_len, if_neg (by omega), if_pos hc']
            exact ⟨_, rfl⟩
        · left
          have hdeep : deep ≤ 20 := by
            unfold pOpen at h1
            split at h1
            · cases h1
            · omega
          refine ⟨?_, .inl (by omega)⟩
          unfold pElem pOpen
          rw [if_pos (by omega)]
          exact ⟨_, rfl⟩

theorem items_sim (S : Sft) : ∀ f, ItSim S f
  | 0, g, _, _, _, _, _, _, _, _, h => by cases h
  | f + 1, g, parent, deep, ns, ns', l, l', a, a', h => by
    have same : ∀ {x : B}, (Ans.ok (ns, l, a) : Ans (List PNode × B × Nat)) = .ok (ns', l', a') → ns.length ≤ ns'.length ∧ ((Bad4 (pItems (f + 1 + g) (S.p parent) (deep + S.dd) (S.ns ns) (l ++ S.t) (a + S.d)) ∧ S.why ns') ∨
        ∃ g', g < g' ∧ pItems (f + 1 + g) (S.p parent) (deep + S.dd) (S.ns ns) (l ++ S.t) (a + S.d) = pItems g' (S.p parent) (deep + S.dd) (S.ns ns') (l' ++ S.t) (a' + S.d)) := by
      intro _ hh
      simp only [Ans.ok.injEq, Prod.mk.injEq] at hh
      obtain ⟨rfl, rfl, rfl⟩ := hh
      exact ⟨Nat.le_refl _, .inr ⟨f + 1 + g, by omega, rfl⟩⟩
    have eg : f + 1 + g = (f + g) + 1 := by omega
    cases l with
    | nil => exact same (x := []) (by rw [pItems] at h; exact h)
    | cons c r =>
      rw [pItems] at h
      split at h
      · exact same (x := []) h
      · rename_i hp1
        have hp1 := Bool.eq_false_iff.2 hp1
        split at h
        · rename_i hp2
          have hlen := prefix_len hp2
          have q1 : ([60, 47] : B).isPrefixOf (c :: r ++ S.t) = false := prefix_no hp1 (by simp [noteBegin] at hlen; simp; omega) _
          have q2 := prefix_app hp2 S.t
          split at h
          · cases h
          · rename_i e hf
            have hfl := findSub_le _ _ _ hf
            have h3 : noteEnd.length = 3 := rfl
            have h4 : noteBegin.length = 4 := rfl
            rw [List.length_drop] at hfl
            obtain ⟨i1, i2⟩ := items_sim S f g _ _ _ _ _ _ _ _ h
            refine ⟨i1, ?_⟩
            rw [eg, List.cons_append, pItems, ← List.cons_append, q1, if_neg (by simp), q2, if_pos rfl, List.drop_append_of_le_length (by omega), findSub_app S.t hf]
            simp only
            rw [List.drop_append_of_le_length (by omega), show a + S.d + (4 + e + 3) = a + (4 + e + 3) + S.d from by omega]
            exact i2
        · rename_i hp2
          have hp2 := Bool.eq_false_iff.2 hp2
          split at h
          · rename_i hp3
            have q3 := prefix_app hp3 S.t
            cases he : pElem (pItems f) parent deep ns (c :: r) a with
            | bad x => rw [he] at h; cases h
            | ok y =>
              obtain ⟨ns2, l2, a2⟩ := y
              rw [he] at h
              simp only [Ans.ok_then] at h
              obtain ⟨e1, ⟨c1, r1, hcr, hc1⟩, e2⟩ := elem_sim S f (items_sim S f) g he
              simp only [List.cons.injEq] at hcr
              obtain ⟨rfl, rfl⟩ := hcr
              obtain ⟨i1, i2⟩ := items_sim S f g _ _ _ _ _ _ _ _ h
              refine ⟨by omega, ?_⟩
              have hlow : ¬ c1 = 47 ∧ ¬ c1 = 33 := by
                constructor <;> (rintro rfl; revert hc1; decide)
              have q1 : ([60, 47] : B).isPrefixOf (60 :: c1 :: r1 ++ S.t) = false := by
                simp only [List.cons_append, List.isPrefixOf]
                have : ((47 : UInt8) == c1) = false := by simpa using fun hh => hlow.1 hh.symm
                simp [this]
              have q2 : noteBegin.isPrefixOf (60 :: c1 :: r1 ++ S.t) = false := by
                simp only [noteBegin, List.cons_append, List.isPrefixOf]
                have : ((33 : UInt8) == c1) = false := by simpa using fun hh => hlow.2 hh.symm
                simp [this]
              rw [eg, List.cons_append, pItems, ← List.cons_append, q1, if_neg (by simp), q2, if_neg (by simp), q3, if_pos rfl]
              rcases e2 with ⟨⟨p, hb⟩, hw⟩ | hb
              · left
                rw [hb]
                refine ⟨⟨p, rfl⟩, ?_⟩
                rcases hw with hw | hw
                · exact .inl hw
                · exact .inr (by omega)
              · rw [hb]
                simp only [Ans.ok_then]
                exact i2
          · rename_i hp3
            have hp3 := Bool.eq_false_iff.2 hp3
            have hc : ¬ c = 60 := by
              rintro rfl
              simp [List.isPrefixOf] at hp3
            have hne : ((60 : UInt8) == c) = false := by simpa using fun hh => hc hh.symm
            split at h
            · rename_i ht
              obtain ⟨i1, i2⟩ := items_sim S f g _ _ _ _ _ _ _ _ h
              refine ⟨i1, ?_⟩
              rw [eg, List.cons_append, pItems]
              simp only [noteBegin, List.isPrefixOf, hne, Bool.false_and, Bool.false_eq_true, if_false, ht, if_true]
              rw [show a + S.d + 1 = a + 1 + S.d from by omega]
              exact i2
            · cases h

/-! ### two pages are one, and one deeper -/
theorem parse_items {s : B} {ns : List PNode} (h : pParse s = .ok ns) : s.length ≤ 6000 ∧ pItems (s.length + 1) (-1) 1 [] s 0 = .ok (ns, [], s.length) ∧ NodesPl s ns := by
  have hf := parse_fact s
  rw [h] at hf
  unfold pParse at h
  split at h
  · cases h
  · have hi := items_fact s (s.length + 1) (-1) 1 [] 0 (by omega) (by simp) (fun i n h => by simp at h) (Nat.zero_le _)
    rw [List.drop_zero] at hi
    cases hp : pItems (s.length + 1) (-1) 1 [] s 0 with
    | bad f => rw [hp] at h; cases h
    | ok x =>
      obtain ⟨ns2, l, a⟩ := x
      rw [hp] at h hi
      obtain ⟨_, _, _, h4, h5⟩ := hi
      simp only [Ans.ok_then] at h
      split at h
      · rename_i hl
        cases h
        dsimp only at h4 h5
        have : a = s.length := by
          have := congrArg List.length h5
          rw [hl, List.length_drop] at this
          simp at this
          omega
        subst this
        subst hl
        exact ⟨by omega, rfl, hf⟩
      · cases h

theorem Sft.ns_id {t : B} {ns : List PNode} {s : B} (h : NodesPl s ns) : (Sft.ns ⟨[], -1, 0, 0, t⟩ ns) = ns := by
  unfold Sft.ns
  rw [List.nil_append]
  conv => rhs; rw [← List.map_id ns]
  apply List.map_congr_left
  intro n hn
  obtain ⟨i, hi⟩ := List.mem_iff_getElem?.1 hn
  have hp := (h i n hi).1
  have ha : (Sft.a ⟨[], -1, 0, 0, t⟩) = id := by funext x; simp [Sft.a]
  have hn0 : Sft.n0 ⟨[], -1, 0, 0, t⟩ n = n := by
    unfold Sft.n0
    rw [ha]
    have hpp : Sft.p ⟨[], -1, 0, 0, t⟩ n.parent = n.parent := by
      unfold Sft.p
      split
      · simp
      · show (-1 : Int) = _; omega
    rw [hpp]
    simp
  unfold Sft.n
  rw [hn0]
  simp

def joinSft (as : List PNode) (s : B) : Sft := ⟨as, -1, s.length, 0, []⟩
theorem parse_joined {s t : B} {as bs : List PNode} (ha : pParse s = .ok as) (hb : pParse t = .ok bs) (hl : s.length + t.length ≤ 6000) (hn : as.length + bs.length ≤ 120) :
    pParse (s ++ t) = .ok (as ++ bs.map (joinSft as s).n) := by
  obtain ⟨_, ia, pa⟩ := parse_items ha
  obtain ⟨_, ib, pb⟩ := parse_items hb
  have s1 := (items_sim ⟨[], -1, 0, 0, t⟩ (s.length + 1) t.length _ _ _ _ _ _ _ _ ia).2
  rw [Sft.ns_id pa] at s1
  have e1 : Sft.p ⟨[], -1, 0, 0, t⟩ (-1) = -1 := rfl
  have e2 : Sft.ns ⟨[], -1, 0, 0, t⟩ [] = [] := rfl
  rw [e1, e2] at s1
  have htot : ∃ x, pItems ((s ++ t).length + 1) (-1) 1 [] (s ++ t) 0 = .ok (as ++ bs.map (joinSft as s).n, [], x) := by
    rw [show (s ++ t).length + 1 = s.length + 1 + t.length from by simp; omega]
    rcases s1 with ⟨_, hw⟩ | ⟨g', hg, hs⟩
    · rcases hw with hw | hw
      · exact absurd hw (by simp)
      · simp at hw; omega
    · have hs' : pItems (s.length + 1 + t.length) (-1) 1 [] (s ++ t) 0 = pItems g' (-1) 1 as t s.length := hs
      rw [hs']
      have s2 := (items_sim (joinSft as s) (t.length + 1) (g' - (t.length + 1)) _ _ _ _ _ _ _ _ ib).2
      rw [show t.length + 1 + (g' - (t.length + 1)) = g' from by omega] at s2
      rcases s2 with ⟨_, hw⟩ | ⟨g2, hg2, hs2⟩
      · rcases hw with hw | hw
        · exact absurd hw (by simp [joinSft])
        · simp [joinSft] at hw; omega
      · have l1 : pItems g' ((joinSft as s).p (-1)) (1 + (joinSft as s).dd) ((joinSft as s).ns []) (t ++ (joinSft as s).t) (0 + (joinSft as s).d) = pItems g' (-1) 1 as t s.length := by
          simp [joinSft, Sft.p, Sft.ns]
        rw [l1] at hs2
        rw [hs2]
        cases g2 with
        | zero => omega
        | succ k => exact ⟨_, rfl⟩
  obtain ⟨x, hx⟩ := htot
  unfold pParse
  rw [if_neg (by simp; omega), hx]
  rfl

def wrapNode : PNode := ⟨[112], -1, [], 2, 0, 0⟩
def wrapSft : Sft := ⟨[wrapNode], 0, 3, 1, [60, 47, 112, 62]⟩
def wrap (s : B) : B := [60, 112, 62] ++ s ++ [60, 47, 112, 62]
theorem parse_wrapped {s : B} {ns : List PNode} (h : pParse s = .ok ns) : Bad4 (pParse (wrap s)) ∨ pParse (wrap s) = .ok (wrapNode :: ns.map wrapSft.n) := by
  obtain ⟨_, ia, pa⟩ := parse_items h
  have hwl : (wrap s).length = s.length + 7 := by simp [wrap]
  by_cases hl : 6000 < (wrap s).length
  · left; unfold pParse; rw [if_pos hl]; exact ⟨_, rfl⟩
  · have s1 := (items_sim wrapSft (s.length + 1) 6 _ _ _ _ _ _ _ _ ia).2
    have l1 : pItems (s.length + 1 + 6) (wrapSft.p (-1)) (1 + wrapSft.dd) (wrapSft.ns []) (s ++ wrapSft.t) (0 + wrapSft.d) = pItems (s.length + 7) 0 2 [wrapNode] (s ++ [60, 47, 112, 62]) 3 := by
      simp [wrapSft, Sft.p, Sft.ns]
    rw [l1] at s1
    have hw : wrap s = 60 :: 112 :: 62 :: (s ++ [60, 47, 112, 62]) := by simp [wrap]
    have hopen : pOpen (-1) 1 0 (wrap s) 0 = .ok (wrapNode, s ++ [60, 47, 112, 62], 3) := by
      rw [hw]
      simp [pOpen, pMust, pName, pAttrs, nameLen, isLow, isMore, List.isPrefixOf, List.takeWhile, wrapNode]
    have helem : pElem (pItems (s.length + 7)) (-1) 1 [] (wrap s) 0 = (pItems (s.length + 7) 0 2 [wrapNode] (s ++ [60, 47, 112, 62]) 3).then fun x => (pMust [60, 47, 112, 62] x.2.1 x.2.2).then fun y => .ok (x.1, y.1, y.2) := by
      unfold pElem
      rw [List.length_nil, hopen]
      simp only [Ans.ok_then]
      unfold pInside
      rw [if_neg (by decide)]
      rfl
    have hstep : pItems (s.length + 7 + 1) (-1) 1 [] (wrap s) 0 = (pElem (pItems (s.length + 7)) (-1) 1 [] (wrap s) 0).then fun (ns', l', at') => pItems (s.length + 7) (-1) 1 ns' l' at' := by
      rw [hw, pItems]
      simp [List.isPrefixOf, noteBegin]
    unfold pParse
    rw [if_neg hl, hwl, hstep, helem]
    rcases s1 with ⟨⟨p, hb⟩, _⟩ | ⟨g', hg, hb⟩
    · left
      rw [hb]
      exact ⟨p, rfl⟩
    · right
      rw [hb]
      cases g' with
      | zero => omega
      | succ k =>
        have hstop : pItems (k + 1) (wrapSft.p (-1)) (1 + wrapSft.dd) (wrapSft.ns ns) ([] ++ wrapSft.t) (s.length + wrapSft.d) = .ok (wrapNode :: ns.map wrapSft.n, [60, 47, 112, 62], s.length + 3) := by
          rw [List.nil_append]
          show pItems (k + 1) _ _ _ [60, 47, 112, 62] _ = _
          rw [pItems]
          simp [List.isPrefixOf, Sft.ns, wrapSft]
        rw [hstop]
        have hm : pMust [60, 47, 112, 62] [60, 47, 112, 62] (s.length + 3) = .ok ([], s.length + 3 + 4) := rfl
        simp only [Ans.ok_then]
        rw [hm]
        simp only [Ans.ok_then]
        have hi : pItems (s.length + 7) (-1) 1 (wrapNode :: ns.map wrapSft.n) [] (s.length + 3 + 4) = .ok (wrapNode :: ns.map wrapSft.n, [], s.length + 3 + 4) := rfl
        rw [hi]
        rfl

end Go.Proofs.Ytplbdlgmjehckaa
