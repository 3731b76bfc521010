/-
  A cell of one's own row is written anew: plain of what the rows lead to.
-/
import Derived.Test.YtplbdlgmjehckabApp
namespace Go.Proofs.Ytplbdlgmjehckab
open Go.RowKit
set_option linter.unusedVariables false
set_option linter.unusedSimpArgs false

theorem flatten_set (size : Nat) : ∀ (rows : List (List Value)), (∀ r ∈ rows, r.length = size) → ∀ (k j : Nat) (r : List Value) (c : Value), rows[k]? = some r → j < size → rows.flatten.set (k * size + j) c = (rows.set k (r.set j c)).flatten
  | [], _, k, j, r, c, h, _ => by simp at h
  | r0 :: rows, hl, k, j, r, c, h, hj => by
    have h0 := hl r0 (by simp)
    cases k with
    | zero =>
      simp only [List.getElem?_cons_zero, Option.some.injEq] at h
      subst h
      simp only [Nat.zero_mul, Nat.zero_add, List.flatten_cons, List.set_cons_zero]
      rw [List.set_append_left _ _ (by omega)]
    | succ k =>
      simp only [List.getElem?_cons_succ] at h
      simp only [List.flatten_cons, List.set_cons_succ]
      rw [List.set_append_right _ _ (by rw [h0, Nat.succ_mul]; omega)]
      have := flatten_set size rows (fun r hr => hl r (by simp [hr])) k j r c h hj
      rw [← this]
      congr 2
      rw [h0, Nat.succ_mul]; omega

theorem owns_put {w : World} {base e size n k j : Nat} {a : Option Addr} {m cap g : Nat} {rows : List (List Value)} {r : List Value} (h : w.ownsRow base e size (.slice (some ⟨g, 0, none⟩) m cap) n rows.flatten) (hl : ∀ r ∈ rows, r.length = size) (hn : rows.length = n) (hk : rows[k]? = some r) (hj : j < size) (c : Value) :
    (w.setCell ⟨g, k * size + j, none⟩ c).ownsRow base e size (.slice (some ⟨g, 0, none⟩) m cap) n (rows.set k (r.set j c)).flatten := by
  obtain ⟨h1, h2⟩ := h
  rw [← flatten_set size rows hl k j r c hk hj]
  refine ⟨by simpa using h1, .inr ?_⟩
  rcases h2 with ⟨h2, _⟩ | ⟨g', cap', cur, hv, hb, hg, hnc, hcm, hcs, htake⟩
  · cases h2
  · cases hv
    refine ⟨g, cap, _, rfl, hb, setIn hg _ c, hnc, hcm, by simpa using hcs, ?_⟩
    have hkn : k < n := by rw [← hn]; exact (List.getElem?_eq_some_iff.1 hk).1
    rw [Array.toList_setIfInBounds, List.take_set, htake]
    
theorem zipWith_set_left {α β γ : Type} (f : α → β → γ) : ∀ (xs : List α) (vs : List β) (k : Nat) (x : α) (u : β), vs[k]? = some u → List.zipWith f (xs.set k x) vs = (List.zipWith f xs vs).set k (f x u)
  | [], vs, k, x, u, h => by simp
  | y :: xs, [], k, x, u, h => by simp at h
  | y :: xs, v :: vs, 0, x, u, h => by simp at h; simp [h]
  | y :: xs, v :: vs, k + 1, x, u, h => by simp at h; simp [zipWith_set_left f xs vs k x u h]

end Go.Proofs.Ytplbdlgmjehckab
