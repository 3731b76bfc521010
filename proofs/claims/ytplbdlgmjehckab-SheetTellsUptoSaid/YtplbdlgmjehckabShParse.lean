/-
  The reader of sheets: Parse and Decls, and what their deferred calls catch.
-/
import Derived.Test.YtplbdlgmjehckabShRules
import Derived.Test.YtplbdlgmjehckabShGuard
namespace Go.Proofs.Ytplbdlgmjehckab
open Go.RowKit
set_option linter.unusedVariables false
set_option linter.unusedSimpArgs false

set_option maxHeartbeats 400000 in
theorem sclear_Parse (fb lb : Nat) (err pos : Int) (u : FrameMode) (w : World) (v : Value) (hf : w.heap[fb]? = some (.cells #[.int .i64 err, .int .i64 pos] 26 (0,0))) (hl : w.heap[lb]? = some (.cells #[v] 23 (0,0))) (he : (err != 0) = true) :
    CallsD Try.prog 18 #[.pointer (some ⟨fb, 0, none⟩), .pointer (some ⟨lb, 0, none⟩)] u w fun e u' w' => u' = u ∧ (e = .returned (.tuple #[]) ∧ Kept (· = lb) w w' ∧ w'.heap[lb]? = some (.cells #[.slice none 0 0] 23 (0,0))) := by
  refine callsD_of_wp Try.func18 rfl ?_
  have g0 := cellIn hf 0 rfl
  have l0 := cellIn hl 0 rfl
  have lf := freeIn hl 0
  simp [Try.ntmps18]
  simp only [Array.replicate_succ, Array.replicate_zero, List.push_toArray, List.append_toArray, List.nil_append, List.cons_append]
  go_wp2
  go_end0
  exact ⟨rfl, (Kept.refl (· = lb) w).setCell (p := ⟨lb, 0, none⟩) (.inl rfl) _, setIn hl 0 _⟩
set_option maxHeartbeats 400000 in
theorem sclear_Parse_idle (fb lb : Nat) (pos : Int) (u : FrameMode) (w : World) (hf : w.heap[fb]? = some (.cells #[.int .i64 0, .int .i64 pos] 26 (0,0))) :
    CallsD Try.prog 18 #[.pointer (some ⟨fb, 0, none⟩), .pointer (some ⟨lb, 0, none⟩)] u w fun e u' w' => u' = u ∧ (e = .returned (.tuple #[]) ∧ w' = w) := by
  refine callsD_of_wp Try.func18 rfl ?_
  have g0 := cellIn hf 0 rfl
  simp [Try.ntmps18]
  simp only [Array.replicate_succ, Array.replicate_zero, List.push_toArray, List.append_toArray, List.nil_append, List.cons_append]
  go_wp2
  go_end0
  exact ⟨rfl, rfl⟩

end Go.Proofs.Ytplbdlgmjehckab
