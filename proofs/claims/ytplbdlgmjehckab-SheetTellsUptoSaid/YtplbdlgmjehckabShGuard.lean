/-
  The reader of sheets: what its deferred calls catch.
-/
import Derived.Test.YtplbdlgmjehckabShBase
import Derived.Recover
import Derived.WideLaws
namespace Go.Proofs.Ytplbdlgmjehckab
open Go.RowKit
set_option linter.unusedVariables false
set_option linter.unusedSimpArgs false

set_option maxHeartbeats 400000 in
theorem sguard_panicking (fb : Nat) (f : Flt) (w : World) (v1 v2 : Value) (hf : w.heap[fb]? = some (.cells #[v1, v2] 26 (0,0))) :
    CallsD Try.prog 19 #[.pointer (some ⟨fb, 0, none⟩)] (.panicking ({ v := soops f, recovered := false } :: [])) w fun e u' w' =>
      e = .returned (.tuple #[]) ∧ u' = .panicking ({ v := soops f, recovered := true } :: []) ∧ Kept (· = fb) w w' ∧
        w'.heap[fb]? = some (.cells #[.int .i64 f.err, .int .i64 f.pos] 26 (0,0)) := by
  refine callsD_of_wpS Try.func19 rfl fun c₀ cs hu => ?_
  apply wpS_seq
  apply wpS_region
  unfold soops at hu ⊢
  simp [wpOpsS, go_sem, recoverD, hu, Try.ntmps19, Exit.thenS]
  refine wpS_of_wp ?_
  have hg : eqGuard .eql 20 (.tmp 5) (.const .nilIface) (.iface 67 (.agg #[.int .i64 (f.err : Int), .int .i64 (f.pos : Int)])) .nilIface = pure () := rfl
  have hta : ∀ w, (Instr.typeAssert (.iface 67 (.agg #[.int .i64 (f.err : Int), .int .i64 (f.pos : Int)])) 20 67 true).run Try.prog w = .ok (.tuple #[.agg #[.int .i64 (f.err : Int), .int .i64 (f.pos : Int)], .bool true]) w := fun w => by kernel_rfl
  simp only [Array.replicate_succ, Array.replicate_zero, List.push_toArray, List.append_toArray, List.nil_append, List.cons_append, List.setIfInBounds_toArray, List.set_cons_succ, List.set_cons_zero]
  have g0 := cellIn hf 0 rfl
  have g1 := cellIn hf 1 rfl
  have g0f := freeIn hf 0
  have g1f := freeIn hf 1
  have hfl := ltIn hf
  go_wp2
  simp [bodyPostS, results, Try.results19]
  refine ⟨?_, ?_⟩
  · exact ((((Kept.refl (· = fb) w).setCell (p := ⟨fb, 0, none⟩) (.inl rfl) _).setCell (p := ⟨fb, 1, none⟩) (.inl rfl) _).alloc _)
  · exact oldIn (setIn (setIn hf 0 (.int .i64 f.err)) 1 (.int .i64 f.pos)) _

set_option maxHeartbeats 400000 in
theorem sguard_idle (p : Addr) (w : World) :
    CallsD Try.prog 19 #[.pointer (some p)] .returning w fun e u' w' => e = .returned (.tuple #[]) ∧ u' = .returning ∧ w' = w := by
  refine callsD_of_wpS Try.func19 rfl fun c₀ cs hu => ?_
  apply wpS_seq
  apply wpS_region
  simp [wpOpsS, go_sem, recoverD, hu, Try.ntmps19, Exit.thenS]
  refine wpS_of_wp ?_
  have hg : eqGuard .eql 20 (.tmp 5) (.const .nilIface) .nilIface .nilIface = pure () := rfl
  simp only [Array.replicate_succ, Array.replicate_zero, List.push_toArray, List.append_toArray, List.nil_append, List.cons_append, List.setIfInBounds_toArray, List.set_cons_succ, List.set_cons_zero]
  go_wp2
  cases c₀
  simp_all [bodyPostS, results, Try.results19]

end Go.Proofs.Ytplbdlgmjehckab
