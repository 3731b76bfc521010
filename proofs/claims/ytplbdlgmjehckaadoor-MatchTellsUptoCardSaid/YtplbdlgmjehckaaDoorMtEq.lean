/-
  '==' of two weights.
-/
import Derived.Test.YtplbdlgmjehckaaDoorMtBest
import Derived.ChangeKeysEq
namespace Go.Proofs.YtplbdlgmjehckaaDoor
open Go.RowKit
set_option linter.unusedVariables false
set_option linter.unusedSimpArgs false

theorem plain_int : Tryd.prog.plainKey 3 = true := by kernel_rfl
theorem eq_weight (x y : PWt) (w : World) : (Op.equalIn 10000 47 (.agg #[.int .i64 (x.a : Int), .int .i64 (x.b : Int), .int .i64 (x.c : Int)]) (.agg #[.int .i64 (y.a : Int), .int .i64 (y.b : Int), .int .i64 (y.c : Int)])).run Tryd.prog w = .ok (decide (x = y)) w := by
  obtain ⟨i0, hi0, _⟩ := info_parts (show (Tryd.prog.info? 3).map (fun i => (i.zero, i.size, i.bytes)) = some (some (.int .i64 0), 1, 8) by kernel_rfl)
  rw [run_equalIn_array w 9999 _ _ Tryd.underlying47 hi0]
  have c1 : Tryd.prog.cellsOf 3 = 1 := by kernel_rfl
  rw [c1, show List.range 3 = [0, 1, 2] from rfl]
  have q : ∀ a b : Int, (Op.equalIn 9999 3 (.int .i64 a) (.int .i64 b)).run Tryd.prog w = .ok (a == b) w := fun a b => run_equalIn_int w 9998 3 .i64 .i64 a b Tryd.underlying3
  have x0 := run_part_plain w plain_int (xs := #[.int .i64 (x.a : Int), .int .i64 (x.b : Int), .int .i64 (x.c : Int)]) (off := 0) (v := .int .i64 (x.a : Int)) rfl
  have x1 := run_part_plain w plain_int (xs := #[.int .i64 (x.a : Int), .int .i64 (x.b : Int), .int .i64 (x.c : Int)]) (off := 1) (v := .int .i64 (x.b : Int)) rfl
  have x2 := run_part_plain w plain_int (xs := #[.int .i64 (x.a : Int), .int .i64 (x.b : Int), .int .i64 (x.c : Int)]) (off := 2) (v := .int .i64 (x.c : Int)) rfl
  have y0 := run_part_plain w plain_int (xs := #[.int .i64 (y.a : Int), .int .i64 (y.b : Int), .int .i64 (y.c : Int)]) (off := 0) (v := .int .i64 (y.a : Int)) rfl
  have y1 := run_part_plain w plain_int (xs := #[.int .i64 (y.a : Int), .int .i64 (y.b : Int), .int .i64 (y.c : Int)]) (off := 1) (v := .int .i64 (y.b : Int)) rfl
  have y2 := run_part_plain w plain_int (xs := #[.int .i64 (y.a : Int), .int .i64 (y.b : Int), .int .i64 (y.c : Int)]) (off := 2) (v := .int .i64 (y.c : Int)) rfl
  obtain ⟨xa, xb, xc⟩ := x
  obtain ⟨ya, yb, yc⟩ := y
  simp only at x0 x1 x2 y0 y1 y2 ⊢
  have e : ∀ a b : Nat, ((a : Int) == (b : Int)) = decide (a = b) := fun a b => by
    by_cases h : a = b
    · simp [h]
    · simp [h]; omega
  simp only [Op.eqItems, Sem.run_bind, Result.andThen_ok, Nat.zero_mul, Nat.one_mul, Nat.mul_one, x0, y0, q, e]
  by_cases h1 : xa = ya
  · subst h1
    simp only [decide_true, Bool.not_true, Bool.false_eq_true, if_false, Sem.run_bind, Result.andThen_ok, x1, y1, q, e]
    by_cases h2 : xb = yb
    · subst h2
      simp only [decide_true, Bool.not_true, Bool.false_eq_true, if_false, Sem.run_bind, Result.andThen_ok, x2, y2, q, e]
      by_cases h3 : xc = yc <;> simp [h3]
    · simp [h2]
  · simp [h1]
end Go.Proofs.YtplbdlgmjehckaaDoor
