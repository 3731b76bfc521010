/-
  The library's functions on texts, by the shelf's contracts, said of lists of bytes.
-/
import Derived.Test.YtplbdlgmjehckabMem
import Derived.Test.YtplbdlgmjehckabRet
import Derived.Test.YtplbdlgmjehckabShelf
namespace Go.Proofs.Ytplbdlgmjehckab
open Go.RowKit
set_option linter.unusedVariables false
set_option linter.unusedSimpArgs false

theorem hasPrefix_any (l p : B) (w : World) :
    Calls Try.prog 58 #[.string (str l), .string (str p)] w fun e w' => e = .returned (.bool (p.isPrefixOf l)) ∧ w' = w :=
  Try.strings_HasPrefix (str l) (str p) w

theorem index_any (l sub : B) (m : Int) (w : World) (hl : l.length < 4294967281) (hm : w.cell? ⟨0, 0, none⟩ = some (.int .i64 m)) :
    Calls Try.prog 48 #[.string (str l), .string (str sub)] w fun e w' => e = .returned (.int .i64 (idx (findSub sub l))) ∧ w' = w :=
  (Try.strings_Index (str l) (str sub) m w hl hm).mono fun e w' ⟨he, hw⟩ => ⟨by rw [he, str_data, str_data, index_findSub]; rfl, hw⟩

theorem index_none (l sub : B) (m : Int) (w : World) (hl : l.length < 4294967281) (hm : w.cell? ⟨0, 0, none⟩ = some (.int .i64 m)) (hf : findSub sub l = none) :
    Calls Try.prog 48 #[.string (str l), .string (str sub)] w fun e w' => e = .returned (.int .i64 (-1)) ∧ w' = w := by
  have := index_any l sub m w hl hm; rw [hf] at this; exact this
theorem index_some {k : Nat} (l sub : B) (m : Int) (w : World) (hl : l.length < 4294967281) (hm : w.cell? ⟨0, 0, none⟩ = some (.int .i64 m)) (hf : findSub sub l = some k) :
    Calls Try.prog 48 #[.string (str l), .string (str sub)] w fun e w' => e = .returned (.int .i64 (k : Int)) ∧ w' = w := by
  have := index_any l sub m w hl hm; rw [hf] at this; exact this

end Go.Proofs.Ytplbdlgmjehckab
