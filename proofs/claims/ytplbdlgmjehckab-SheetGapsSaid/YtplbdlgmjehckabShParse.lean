/-
  The reader of sheets: Parse and Decls, and what their deferred calls catch.
-/
import Derived.Test.YtplbdlgmjehckabShRules
import Derived.Recover
import Derived.WideLaws
namespace Go.Proofs.Ytplbdlgmjehckab
open Go.RowKit
set_option linter.unusedVariables false
set_option linter.unusedSimpArgs false

set_option maxHeartbeats 400000 in
theorem sguard_panicking (fb : Nat) (f : Flt) (w : World) (v1 v2 : Value) (hf : w.heap[fb]? = some (.cells #[v1, v2] 26 (0,0))) :
    CallsD Try.prog 19 #[.pointer (some ⟨fb, 0, none⟩)] (.panicking ({ v := soops f, recovered := false } :: [])) w fun e u' w' =>
      e = .returned (.tuple #[]) ∧ u' = .panicking ({ v := soops f, recovered := true } :: []) ∧ Kept (· = fb) w w' ∧
        w'.heap[fb]? = some (.cells #[.int .i64 f.err, .int .i64 f.pos] 26 (0,0)) := by
  refine callsD_of_wpS Try.func19 rfl fun c₀ cs hu => ?_
  apply wpS_seq
  apply wpS_region
  unfold soops at hu ⊢
  simp [wpOpsS, go_sem, recoverD, hu, Try.ntmps19, Exit.thenS]
  refine wpS_of_wp ?_
  have hg : eqGuard .eql 20 (.tmp 5) (.const .nilIface) (.iface 67 (.agg #[.int .i64 (f.err : Int), .int .i64 (f.pos : Int)])) .nilIface = pure () := rfl
  have hta : ∀ w, (Instr.typeAssert (.iface 67 (.agg #[.int .i64 (f.err : Int), .int .i64 (f.pos : Int)])) 20 67 true).run Try.prog w = .ok (.tuple #[.agg #[.int .i64 (f.err : Int), .int .i64 (f.pos : Int)], .bool true]) w := fun w => by kernel_rfl
  simp only [Array.replicate_succ, Array.replicate_zero, List.push_toArray, List.append_toArray, List.nil_append, List.cons_append, List.setIfInBounds_toArray, List.set_cons_succ, List.set_cons_zero]
  have g0 := cellIn hf 0 rfl
  have g1 := cellIn hf 1 rfl
  have g0f := freeIn hf 0
  have g1f := freeIn hf 1
  have hfl := ltIn hf
  go_wp2
  simp [bodyPostS, results, Try.results19]
  refine ⟨?_, ?_⟩
  · exact ((((Kept.refl (· = fb) w).setCell (p := ⟨fb, 0, none⟩) (.inl rfl) _).setCell (p := ⟨fb, 1, none⟩) (.inl rfl) _).alloc _)
  · exact oldIn (setIn (setIn hf 0 (.int .i64 f.err)) 1 (.int .i64 f.pos)) _

set_option maxHeartbeats 400000 in
theorem sguard_idle (p : Addr) (w : World) :
    CallsD Try.prog 19 #[.pointer (some p)] .returning w fun e u' w' => e = .returned (.tuple #[]) ∧ u' = .returning ∧ w' = w := by
  refine callsD_of_wpS Try.func19 rfl fun c₀ cs hu => ?_
  apply wpS_seq
  apply wpS_region
  simp [wpOpsS, go_sem, recoverD, hu, Try.ntmps19, Exit.thenS]
  refine wpS_of_wp ?_
  have hg : eqGuard .eql 20 (.tmp 5) (.const .nilIface) .nilIface .nilIface = pure () := rfl
  simp only [Array.replicate_succ, Array.replicate_zero, List.push_toArray, List.append_toArray, List.nil_append, List.cons_append, List.setIfInBounds_toArray, List.set_cons_succ, List.set_cons_zero]
  go_wp2
  cases c₀
  simp_all [bodyPostS, results, Try.results19]

set_option maxHeartbeats 400000 in
theorem sclear_Parse (fb lb : Nat) (err pos : Int) (u : FrameMode) (w : World) (v : Value) (hf : w.heap[fb]? = some (.cells #[.int .i64 err, .int .i64 pos] 26 (0,0))) (hl : w.heap[lb]? = some (.cells #[v] 23 (0,0))) (he : (err != 0) = true) :
    CallsD Try.prog 18 #[.pointer (some ⟨fb, 0, none⟩), .pointer (some ⟨lb, 0, none⟩)] u w fun e u' w' => u' = u ∧ (e = .returned (.tuple #[]) ∧ Kept (· = lb) w w' ∧ w'.heap[lb]? = some (.cells #[.slice none 0 0] 23 (0,0))) := by
  refine callsD_of_wp Try.func18 rfl ?_
  have g0 := cellIn hf 0 rfl
  have l0 := cellIn hl 0 rfl
  have lf := freeIn hl 0
  simp [Try.ntmps18]
  simp only [Array.replicate_succ, Array.replicate_zero, List.push_toArray, List.append_toArray, List.nil_append, List.cons_append]
  go_wp2
  go_end0
  exact ⟨rfl, (Kept.refl (· = lb) w).setCell (p := ⟨lb, 0, none⟩) (.inl rfl) _, setIn hl 0 _⟩
set_option maxHeartbeats 400000 in
theorem sclear_Parse_idle (fb lb : Nat) (pos : Int) (u : FrameMode) (w : World) (hf : w.heap[fb]? = some (.cells #[.int .i64 0, .int .i64 pos] 26 (0,0))) :
    CallsD Try.prog 18 #[.pointer (some ⟨fb, 0, none⟩), .pointer (some ⟨lb, 0, none⟩)] u w fun e u' w' => u' = u ∧ (e = .returned (.tuple #[]) ∧ w' = w) := by
  refine callsD_of_wp Try.func18 rfl ?_
  have g0 := cellIn hf 0 rfl
  simp [Try.ntmps18]
  simp only [Array.replicate_succ, Array.replicate_zero, List.push_toArray, List.append_toArray, List.nil_append, List.cons_append]
  go_wp2
  go_end0
  exact ⟨rfl, rfl⟩

set_option maxHeartbeats 400000 in
theorem sclear_Decls (fb lb : Nat) (err pos : Int) (u : FrameMode) (w : World) (v : Value) (hf : w.heap[fb]? = some (.cells #[.int .i64 err, .int .i64 pos] 26 (0,0))) (hl : w.heap[lb]? = some (.cells #[v] 22 (0,0))) (he : (err != 0) = true) :
    CallsD Try.prog 26 #[.pointer (some ⟨fb, 0, none⟩), .pointer (some ⟨lb, 0, none⟩)] u w fun e u' w' => u' = u ∧ (e = .returned (.tuple #[]) ∧ Kept (· = lb) w w' ∧ w'.heap[lb]? = some (.cells #[.slice none 0 0] 22 (0,0))) := by
  refine callsD_of_wp Try.func26 rfl ?_
  have g0 := cellIn hf 0 rfl
  have l0 := cellIn hl 0 rfl
  have lf := freeIn hl 0
  simp [Try.ntmps26]
  simp only [Array.replicate_succ, Array.replicate_zero, List.push_toArray, List.append_toArray, List.nil_append, List.cons_append]
  go_wp2
  go_end0
  exact ⟨rfl, (Kept.refl (· = lb) w).setCell (p := ⟨lb, 0, none⟩) (.inl rfl) _, setIn hl 0 _⟩
set_option maxHeartbeats 400000 in
theorem sclear_Decls_idle (fb lb : Nat) (pos : Int) (u : FrameMode) (w : World) (hf : w.heap[fb]? = some (.cells #[.int .i64 0, .int .i64 pos] 26 (0,0))) :
    CallsD Try.prog 26 #[.pointer (some ⟨fb, 0, none⟩), .pointer (some ⟨lb, 0, none⟩)] u w fun e u' w' => u' = u ∧ (e = .returned (.tuple #[]) ∧ w' = w) := by
  refine callsD_of_wp Try.func26 rfl ?_
  have g0 := cellIn hf 0 rfl
  simp [Try.ntmps26]
  simp only [Array.replicate_succ, Array.replicate_zero, List.push_toArray, List.append_toArray, List.nil_append, List.cons_append]
  go_wp2
  go_end0
  exact ⟨rfl, rfl⟩

end Go.Proofs.Ytplbdlgmjehckab
