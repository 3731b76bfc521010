/-
  A cell of one's own row is written anew.
-/
import Derived.Test.YtplbdlgmjehckabShAlive
import Derived.Test.YtplbdlgmjehckabOwnPut
namespace Go.Proofs.Ytplbdlgmjehckab
open Go.RowKit
set_option linter.unusedVariables false
set_option linter.unusedSimpArgs false

/-- the cell j of row k is written anew: the row is then that of x' -/
theorem NestOwn.put {α : Type} {f : α → Value → List Value} {size e : Nat} {Q : World → (Nat → Prop) → Value → α → Prop} {w : World} {base g m cap k j : Nat} {xs : List α} {vs : List Value} {x x' : α} {c : Value}
    (h : NestOwn f size e Q w base (.slice (some ⟨g, 0, none⟩) m cap) xs vs) (hf : ∀ a v, (f a v).length = size) (hQ : Lasts Q) (hx : xs[k]? = some x) (hj : j < size) (hset : ∀ u, (f x u).set j c = f x' u) (hQx : ∀ w X u, Q w X u x → Q w X u x') :
    NestOwn f size e Q (w.setCell ⟨g, k * size + j, none⟩ c) base (.slice (some ⟨g, 0, none⟩) m cap) (xs.set k x') vs := by
  have hk := (List.getElem?_eq_some_iff.1 hx).1
  have hu : vs[k]? = some (vs[k]'(by rw [h.len]; exact hk)) := List.getElem?_eq_getElem _
  refine ⟨by rw [h.len]; simp, ?_, fun i y u hy hu' => ?_⟩
  · rw [zipWith_set_left f xs vs k x' _ hu, ← hset, List.length_set]
    exact owns_put (a := none) h.own (zipRows hf) (by simp [h.len]) (by simp [List.getElem?_zipWith, hx, hu]) hj c
  · have hkept : Kept (· = g) w (w.setCell ⟨g, k * size + j, none⟩ c) := (Kept.refl (· = g) w).setCell (p := ⟨g, k * size + j, none⟩) (.inl rfl) c
    have new : ∀ y, Q w (fun k => k < base ∨ (Value.slice (some ⟨g, 0, none⟩) m cap).ownBlock = some k) u y → Q (w.setCell ⟨g, k * size + j, none⟩ c) (fun k => k < base ∨ (Value.slice (some ⟨g, 0, none⟩) m cap).ownBlock = some k) u y := fun y hq =>
      hQ _ _ _ _ _ _ _ hq hkept (fun q _ (hs : q = g) => .inr (by rw [hs]; rfl)) (fun _ _ hx => hx)
    by_cases hik : i = k
    · subst hik
      rw [List.getElem?_set_self hk] at hy
      cases hy
      exact new _ (hQx _ _ _ (h.nest i x u hx hu'))
    · rw [List.getElem?_set_ne (fun h => hik h.symm)] at hy
      exact new _ (h.nest i y u hy hu')

end Go.Proofs.Ytplbdlgmjehckab
