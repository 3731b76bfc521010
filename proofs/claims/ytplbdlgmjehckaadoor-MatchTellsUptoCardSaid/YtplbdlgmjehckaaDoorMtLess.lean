/-
  inkref3.Less.
-/
import Derived.Test.YtplbdlgmjehckaaDoorMtBest
namespace Go.Proofs.YtplbdlgmjehckaaDoor
open Go.RowKit
set_option linter.unusedVariables false
set_option linter.unusedSimpArgs false

set_option maxRecDepth 100000 in
set_option maxHeartbeats 1600000 in
theorem less_any (w : World) (x y : PWt) (hx : x.low 1048576) (hy : y.low 1048576) :
    Calls Tryd.prog 27 #[.agg #[.int .i64 (x.a : Int), .int .i64 (x.b : Int), .int .i64 (x.c : Int)], .agg #[.int .i64 (y.a : Int), .int .i64 (y.b : Int), .int .i64 (y.c : Int)]] w fun e w' => e = .returned (.bool (wLt x y)) ∧ Kept (fun _ => False) w w' := by
  have HX := Lib.hid hx
  have HY := Lib.hid hy
  obtain ⟨wa, HWA⟩ : ∃ z, Hid ((w.alloc (.cells #[.int .i64 (x.a : Int), .int .i64 (x.b : Int), .int .i64 (x.c : Int)] 47 (0, 0))).alloc (.cells #[.int .i64 (y.a : Int), .int .i64 (y.b : Int), .int .i64 (y.c : Int)] 47 (0, 0)) = z) := ⟨_, rfl⟩
  have hxa : WtAt wa w.heap.size x := by rw [← HWA.out]; exact oldIn (newIn w _) _
  have hya : WtAt wa (w.heap.size + 1) y := by
    rw [← HWA.out]
    have := newIn (w.alloc (.cells #[.int .i64 (x.a : Int), .int .i64 (x.b : Int), .int .i64 (x.c : Int)] 47 (0, 0))) (.cells #[.int .i64 (y.a : Int), .int .i64 (y.b : Int), .int .i64 (y.c : Int)] 47 (0, 0))
    simpa [WtAt] using this
  have KA : Hid (Kept (fun _ => False) w wa) := Lib.hid (by rw [← HWA.out]; exact ((Kept.refl _ w).alloc _).alloc _)
  have HXA := Lib.hid hxa
  have HYA := Lib.hid hya
  obtain ⟨r, HR⟩ : ∃ r, Hid (wLt x y = r) := ⟨_, rfl⟩
  rw [HR.out]
  clear hx hy hxa hya
  obtain ⟨j1, hj1, hy0, hy1, hy2⟩ := info_parts (show (Tryd.prog.info? 3).map (fun i => (i.zero, i.size, i.bytes)) = some (some (.int .i64 0), 1, 8) by kernel_rfl)
  go_enter Tryd.func27, Tryd.ntmps27
  go_upto_block 0 with fail
  rw [HWA.out]
  go_wp2_with fail
  go_loopw [6] (fun i wr => ∃ k : Nat, k ≤ 3 ∧ i = .int .i64 k ∧ (∃ n, wr = wa.drewN n) ∧ Hid (Same3 x y k)) (fun i _ => 3 - (intOf i).toNat)
  case atStart => exact ⟨0, by omega, rfl, ⟨0, rfl⟩, Lib.hid ⟨by omega, by omega, by omega⟩⟩
  case round =>
    obtain ⟨k, hk, rfl, ⟨n0, rfl⟩, HS⟩ := hrel
    by_cases hlt : k < 3
    · obtain ⟨u, v, c1, c2, hu, hv, hA, hB, hC⟩ := cmp_step (w := wa) (HXA.out.ints) (HYA.out.ints) HX.out HY.out hlt HS.out
      have HA := Lib.hid hA
      have HB := Lib.hid hB
      have HC := Lib.hid hC
      clear hA hB hC
      have ed : decide ((k : Int) < 3) = true := by simp; omega
      have ee : decide (3 ≤ (k : Int)) = false := by simp; omega
      have e9 : (k : Int) < 3 := by omega
      rw [Nat.zero_add] at c1 c2
      by_cases g1 : u < v
      · have hr : Hid (true = r) := Lib.hid (by rw [← HR.out]; exact (HA.out g1).2.symm)
        have e1 : ((u : Int) == (v : Int)) = false := by simp; omega
        have e2 : decide ((u : Int) < (v : Int)) = true := by simp; omega
        go_upto_region 4 with fail
        go_quiet (fail)
        go_upto_region 5 with fail
        go_quiet (fail)
        go_wp2_with fail
        go_ret
        exact ⟨retb hr.out, ((KA.out.drewN _).drewN _).drewN _⟩
      · by_cases g2 : v < u
        · have hr : Hid (false = r) := Lib.hid (by rw [← HR.out]; exact (wLt_asymm (HB.out g2)).symm)
          have e1 : ((u : Int) == (v : Int)) = false := by simp; omega
          have e2 : decide ((u : Int) < (v : Int)) = false := by simp; omega
          go_upto_region 4 with fail
          go_quiet (fail)
          go_upto_region 5 with fail
          go_quiet (fail)
          go_wp2_with fail
          go_ret
          exact ⟨retb hr.out, ((KA.out.drewN _).drewN _).drewN _⟩
        · have e3 : u = v := by omega
          subst e3
          have hs := HC.out rfl
          go_upto_region 4 with fail
          go_quiet (fail)
          go_wp2_with fail
          go_roundw
          case measure => simp [intOf]; omega
          case rel => exact ⟨k + 1, by omega, by go_num, ⟨_, rfl⟩, Lib.hid hs⟩
    · obtain rfl : k = 3 := by omega
      go_wp2_with fail
      go_ret
      refine ⟨retb ?_, KA.out.drewN _⟩
      rw [← HR.out]
      obtain ⟨s0, s1, s2⟩ := HS.out
      have h1 := s0 (by omega)
      have h2 := s1 (by omega)
      have h3 := s2 (by omega)
      simp [wLt]; omega
end Go.Proofs.YtplbdlgmjehckaaDoor
