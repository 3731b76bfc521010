/-
  A row of bytes of one's own, made of a text, written, and read as a text again.
-/
import Derived.Test.YtplbdlgmjehckabBts
import Derived.Laws.IdiomStrings
namespace Go.Proofs.Ytplbdlgmjehckab
open Go.RowKit
set_option linter.unusedVariables false
set_option linter.unusedSimpArgs false

/-- block b holds these bytes, which may be written -/
def BytesAt (w : World) (b : Nat) (l : B) : Prop := ∃ (cs : Array Value) (n k : Nat), w.heap[b]? = some (.cells cs 5 (n, k)) ∧ l.length ≤ n ∧ ∀ j (hj : j < l.length), cs[j]? = some (.int .u8 ((l[j]).toNat : Int))
theorem BytesAt.cell {w : World} {b : Nat} {l : B} (h : BytesAt w b l) (j : Nat) (hj : j < l.length) : w.cell? ⟨b, j, none⟩ = some (.int .u8 ((l[j]).toNat : Int)) := by
  obtain ⟨cs, n, k, h1, h2, h3⟩ := h
  exact cellIn h1 j (h3 j hj)
theorem BytesAt.free {w : World} {b : Nat} {l : B} (h : BytesAt w b l) (j : Nat) (hj : j < l.length) : w.frozen? ⟨b, j, none⟩ = false := by
  obtain ⟨cs, n, k, h1, h2, h3⟩ := h
  simp [World.frozen?, h1]
  omega
theorem BytesAt.put {w : World} {b : Nat} {l : B} (h : BytesAt w b l) (j : Nat) (c : UInt8) : BytesAt (w.setCell ⟨b, j, none⟩ (.int .u8 (c.toNat : Int))) b (l.set j c) := by
  obtain ⟨cs, n, k, h1, h2, h3⟩ := h
  refine ⟨_, n, k, setIn h1 j _, by simpa using h2, fun i hi => ?_⟩
  rw [List.length_set] at hi
  have h4 := h3 i hi
  rw [Array.getElem?_setIfInBounds]
  by_cases hij : j = i
  · subst hij
    have hlt := (Array.getElem?_eq_some_iff.1 h4).1
    simp [hlt]
  · simp [hij, h4]
theorem BytesAt.kept {S : Nat → Prop} {w w' : World} {b : Nat} {l : B} (h : BytesAt w b l) (hk : Kept S w w') (hb : ¬ S b) : BytesAt w' b l := by
  obtain ⟨cs, n, k, h1, h2⟩ := h
  exact ⟨cs, n, k, hk.heap hb h1, h2⟩
/-- '[]byte(s)' -/
theorem bytes_new (x : B) (w : World) : ∃ (wb : World) (cp : Nat), (convert 9 37 (.string (str x))).run Try.prog w = .ok (.slice (some ⟨w.heap.size, 0, none⟩) x.length cp) wb ∧ Kept (fun _ => False) w wb ∧ BytesAt wb w.heap.size x := by
  refine ⟨_, _, Lib.run_convert_string_bytes w 9 37 5 (str x) (u := .string) Try.underlying9 Try.underlying37 Try.underlying5, kept_bytes w _ _, _, _, _, Lib.bytesWorld_at_new w _ _, ?_, fun j hj => ?_⟩
  · simp [Lib.bytesCells, str]
  · have hj2 : j < (str x).size := hj
    simp [Lib.bytesCells, str, Array.getElem?_append, hj]
end Go.Proofs.Ytplbdlgmjehckab
