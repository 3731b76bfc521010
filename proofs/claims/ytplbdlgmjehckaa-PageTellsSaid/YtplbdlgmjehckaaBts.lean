/-
  '[]byte(s)': a row of its own that holds the text's bytes.
-/
import Derived.Test.YtplbdlgmjehckaaMem
import Derived.Lib.ConvBytes
namespace Go.Proofs.Ytplbdlgmjehckaa
open Go.RowKit
set_option linter.unusedVariables false
set_option linter.unusedSimpArgs false

theorem kept_bytes (w : World) (e : TypeId) (s : ByteArray) : Kept (fun _ => False) w (Lib.bytesWorld w e s) :=
  ⟨rfl, rfl, rfl, by rw [Lib.bytesWorld_size]; omega, fun k hk _ => Lib.bytesWorld_at_old w e s k hk⟩
/-- the bytes of a text, in a block of their own -/
theorem bytes_of (x : B) (w : World) : ∃ (wb : World) (cp : Nat), (convert 9 56 (.string (str x))).run Try.prog w = .ok (.slice (some ⟨w.heap.size, 0, none⟩) x.length cp) wb ∧ Kept (fun _ => False) w wb ∧
    ∀ j (hj : j < x.length), wb.cell? ⟨w.heap.size, j, none⟩ = some (.int .u8 ((x[j]).toNat : Int)) :=
  ⟨_, _, Lib.run_convert_string_bytes w 9 56 5 (str x) (u := .string) Try.underlying9 Try.underlying56 Try.underlying5, kept_bytes w _ _, fun j hj => by
    rw [Lib.bytesWorld_cell w _ (str x) j hj]
    simp [List.getD, List.getElem?_eq_getElem hj]⟩
end Go.Proofs.Ytplbdlgmjehckaa
