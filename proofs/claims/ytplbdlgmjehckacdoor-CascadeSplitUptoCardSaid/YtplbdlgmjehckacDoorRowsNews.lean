/-
  What stands in a slice's rows, told as one list of cells: what an append of all of it takes.
-/
import Derived.Test.YtplbdlgmjehckacDoorMem
import Derived.Deep.AppendLies
namespace Go.Proofs.YtplbdlgmjehckacDoor
open Go.RowKit
set_option linter.unusedVariables false
set_option linter.unusedSimpArgs false

theorem flatten_inv (size : Nat) : ∀ (rows : List (List Value)), (∀ r ∈ rows, r.length = size) → ∀ (j : Nat) (u : Value), rows.flatten[j]? = some u → ∃ i k r, rows[i]? = some r ∧ r[k]? = some u ∧ j = i * size + k
  | [], _, j, u, h => by simp at h
  | r0 :: rows, hl, j, u, h => by
    have h0 := hl r0 (by simp)
    simp only [List.flatten_cons] at h
    by_cases hj : j < r0.length
    · rw [List.getElem?_append_left hj] at h
      exact ⟨0, j, r0, rfl, h, by simp⟩
    · rw [List.getElem?_append_right (by omega)] at h
      obtain ⟨i, k, r, h1, h2, h3⟩ := flatten_inv size rows (fun r hr => hl r (by simp [hr])) _ u h
      exact ⟨i + 1, k, r, by simpa using h1, h2, by rw [Nat.succ_mul]; omega⟩
theorem add_at (b off j : Nat) : ((⟨b, off, none⟩ : Addr).add j) = ⟨b, off + j, none⟩ := by unfold Addr.add; split <;> simp_all
theorem RowsAt.news {w : World} {size b off n cap : Nat} {rows : List (List Value)} (h : RowsAt w size (.slice (some ⟨b, off, none⟩) n cap) rows) (hl : ∀ r ∈ rows, r.length = size) :
    ∀ j u, rows.flatten[j]? = some u → w.cell? ((⟨b, off, none⟩ : Addr).add j) = some u := fun j u hu => by
  obtain ⟨i, k, r, h1, h2, rfl⟩ := flatten_inv size rows hl j u hu
  obtain ⟨a', cap', hv, _, _, h4⟩ := h
  obtain ⟨b', off', hb, h5⟩ := h4 (by intro hn; subst hn; simp at h1)
  simp only [Value.slice.injEq] at hv
  obtain ⟨rfl, _, _⟩ := hv
  cases hb
  rw [add_at, ← Nat.add_assoc]
  exact h5 i r h1 k u h2
theorem flatten_len (size : Nat) : ∀ (rows : List (List Value)), (∀ r ∈ rows, r.length = size) → rows.flatten.length = rows.length * size
  | [], _ => by simp
  | r :: rows, h => by
    rw [List.flatten_cons, List.length_append, h r (by simp), flatten_len size rows (fun x hx => h x (by simp [hx])), List.length_cons, Nat.succ_mul]; omega
theorem RowsAt.addr {w : World} {size : Nat} {a : Option Addr} {n cap : Nat} {rows : List (List Value)} (h : RowsAt w size (.slice a n cap) rows) (hne : rows ≠ []) : ∃ b off, a = some ⟨b, off, none⟩ := by
  obtain ⟨a', cap', hv, _, _, h4⟩ := h
  obtain ⟨b', off', hb, _⟩ := h4 hne
  simp only [Value.slice.injEq] at hv
  obtain ⟨rfl, _, _⟩ := hv
  exact ⟨b', off', hb⟩
theorem RowsAt.len {w : World} {size : Nat} {a : Option Addr} {n cap : Nat} {rows : List (List Value)} (h : RowsAt w size (.slice a n cap) rows) : n = rows.length := by
  obtain ⟨a', cap', hv, _, _, h4⟩ := h
  simp only [Value.slice.injEq] at hv
  exact hv.2.1
end Go.Proofs.YtplbdlgmjehckacDoor
