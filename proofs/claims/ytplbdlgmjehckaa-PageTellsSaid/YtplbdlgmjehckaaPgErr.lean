/-
  Plain Lean, no program: a fault of the page's parser is never 'OK'.
-/
import Derived.Test.YtplbdlgmjehckaaPgSpec
namespace Go.Proofs.Ytplbdlgmjehckaa
set_option linter.unusedVariables false
set_option linter.unusedSimpArgs false

def NB {α : Type} (r : Ans α) : Prop := ∀ f, r = .bad f → f.err ≠ 0
theorem NB.ok {α : Type} (x : α) : NB (Ans.ok x) := fun f h => by cases h
theorem NB.bad {α : Type} {f : Flt} (h : f.err ≠ 0) : NB (Ans.bad f : Ans α) := fun g hg => by cases hg; exact h
theorem NB.then {α β : Type} {r : Ans α} {k : α → Ans β} (h : NB r) (hk : ∀ x, NB (k x)) : NB (r.then k) := by
  cases r with
  | bad f => exact fun g hg => by cases hg; exact h f rfl
  | ok x => exact hk x
theorem nb_name (l : B) (a : Nat) : NB (pName l a) := by
  unfold pName
  split
  · exact NB.bad (by simp)
  · split
    · exact NB.bad (by simp)
    · exact NB.ok _
theorem nb_must (w l : B) (a : Nat) : NB (pMust w l a) := by
  unfold pMust
  split
  · exact NB.ok _
  · exact NB.bad (by simp)
theorem nb_attr (al : List PAttr) (l : B) (a : Nat) : NB (pAttr al l a) := by
  unfold pAttr
  refine (nb_name _ _).then ?_
  rintro ⟨nm, l2, a2⟩
  dsimp only
  split
  · exact NB.bad (by simp; split <;> decide)
  · exact (nb_must _ _ _).then fun y => (nb_must _ _ _).then fun z => NB.ok _
theorem nb_attrs : ∀ (f : Nat) (al : List PAttr) (l : B) (a : Nat), NB (pAttrs f al l a)
  | 0, _, _, _ => NB.bad (by simp)
  | f + 1, al, l, a => by
    unfold pAttrs
    split
    · exact (nb_attr _ _ _).then fun x => nb_attrs f _ _ _
    · exact NB.ok _
theorem nb_open (parent : Int) (deep count : Nat) (l : B) (a : Nat) : NB (pOpen parent deep count l a) := by
  unfold pOpen
  split
  · exact NB.bad (by simp)
  · split
    · exact NB.bad (by simp)
    · exact (nb_must _ _ _).then fun x => (nb_name _ _).then fun y => (nb_attrs _ _ _ _).then fun z => (nb_must _ _ _).then fun u => NB.ok _
theorem nb_elem (items : Int → Nat → List PNode → B → Nat → Ans (List PNode × B × Nat)) (h : ∀ p d n l a, NB (items p d n l a)) (parent : Int) (deep : Nat) (ns : List PNode) (l : B) (a : Nat) : NB (pElem items parent deep ns l a) := by
  unfold pElem
  refine (nb_open _ _ _ _ _).then fun x => ?_
  refine NB.then ?_ fun y => (nb_must _ _ _).then fun z => NB.ok _
  unfold pInside
  split
  · split
    · exact NB.bad (by simp)
    · exact NB.ok _
  · exact h _ _ _ _ _
theorem nb_items : ∀ (f : Nat) (parent : Int) (deep : Nat) (ns : List PNode) (l : B) (a : Nat), NB (pItems f parent deep ns l a)
  | 0, _, _, _, _, _ => NB.bad (by simp)
  | f + 1, parent, deep, ns, l, a => by
    unfold pItems
    split
    · exact NB.ok _
    · split
      · exact NB.ok _
      · split
        · split
          · exact NB.bad (by simp)
          · exact nb_items f _ _ _ _ _
        · split
          · exact (nb_elem _ (nb_items f) _ _ _ _ _).then fun x => nb_items f _ _ _ _ _
          · split
            · exact nb_items f _ _ _ _ _
            · exact NB.bad (by simp)

end Go.Proofs.Ytplbdlgmjehckaa
