/-
  Rows of truth values in blocks of the call's own.
-/
import Derived.Test.YtplbdlgmjehckaaDoorShCells
import Derived.Laws.OwnMore
namespace Go.Proofs.YtplbdlgmjehckaaDoor
open Go.RowKit
set_option linter.unusedVariables false
set_option linter.unusedSimpArgs false

def BoolsAt (w : World) (b : Nat) (l : List Bool) : Prop := w.heap[b]? = some (.cells (l.map Value.bool).toArray 4 (0, 0))
theorem BoolsAt.cell {w : World} {b : Nat} {l : List Bool} (h : BoolsAt w b l) {k : Nat} {x : Bool} (hk : l[k]? = some x) : w.cell? ⟨b, k, none⟩ = some (.bool x) := cellIn h k (by simp [hk])
theorem BoolsAt.free {w : World} {b : Nat} {l : List Bool} (h : BoolsAt w b l) (k : Nat) : w.frozen? ⟨b, k, none⟩ = false := freeIn h k
theorem BoolsAt.put {w : World} {b : Nat} {l : List Bool} (h : BoolsAt w b l) (k : Nat) (x : Bool) : BoolsAt (w.setCell ⟨b, k, none⟩ (.bool x)) b (l.set k x) := by
  have := setIn h k (.bool x)
  rw [show ((l.map Value.bool).toArray).setIfInBounds k (.bool x) = ((l.set k x).map Value.bool).toArray from by rw [List.setIfInBounds_toArray, List.map_set]] at this
  exact this
theorem BoolsAt.kept {w w' : World} {b : Nat} {l : List Bool} {S : Nat → Prop} (h : BoolsAt w b l) (hk : Kept S w w') (hs : ¬ S b) : BoolsAt w' b l := hk.heap hs h
theorem info_bool : (Tryd.prog.info? 4).map (fun i => (i.zero, i.size, i.bytes)) = some (some (.bool false), 1, 1) := by kernel_rfl
theorem bools_new (w : World) (n : Nat) (hn : n ≤ 281474976710656) : ∃ w', (Instr.makeSlice 58 (.int .i64 (n : Int)) (.int .i64 (n : Int))).run Tryd.prog w = .ok (.slice (some ⟨w.heap.size, 0, none⟩) n n) w' ∧ BoolsAt w' w.heap.size (List.replicate n false) ∧ Kept (fun _ => False) w w' := by
  obtain ⟨i, hi, hz0, hz1, hz2⟩ := info_parts info_bool
  obtain ⟨w', h1, h2, h3⟩ := run_make_full (P := Tryd.prog) w w.heap.size 58 4 i (.bool false) 1 Tryd.underlying58 hi hz0 hz1 .i64 .i64 n (by rw [hz2]; omega) (by unfold maxLen; omega) (Nat.le_refl _)
  refine ⟨w', h1, ?_, (Kept.refl _ w).grown h3 (fun k hk => by cases hk)⟩
  rcases h2.2 with ⟨hx, _⟩ | ⟨g, cap, cur, hv, hb, hg, hnc, hcm, hcs, htake⟩
  · cases hx
  · cases hv
    unfold BoolsAt
    have hcl : cur.toList.length = n * 1 := by simpa using hcs
    rw [List.take_of_length_le (by omega)] at htake
    have : cur = (List.map Value.bool (List.replicate n false)).toArray := by
      apply Array.ext'
      rw [htake]
      have e : (Value.bool false).cells = #[.bool false] := rfl
      rw [e]
      apply List.ext_getElem
      · simp [size_madeCells]
      · intro j h5 h6
        simp [madeCells, Nat.mod_one]
    rw [← this]; exact hg
theorem slice_nil_yes (w : World) : (binOp .eql 58 (.slice none 0 0) (.slice none 0 0)).run Tryd.prog w = .ok (.bool true) w := by kernel_rfl
theorem slice_nil_no (w : World) (a : Addr) (n c : Nat) : (binOp .eql 58 (.slice (some a) n c) (.slice none 0 0)).run Tryd.prog w = .ok (.bool false) w := by kernel_rfl
end Go.Proofs.YtplbdlgmjehckaaDoor
