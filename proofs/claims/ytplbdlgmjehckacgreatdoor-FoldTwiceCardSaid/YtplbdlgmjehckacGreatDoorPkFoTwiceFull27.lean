/-
 Lemmas for the claims of this seat: the program's functions walked, and plain laws. In this order: FoLawTwice.
-/
import Derived.Test.YtplbdlgmjehckacGreatDoorPk26
import Derived.Test.YtplbdlgmjehckacGreatDoorPk8
namespace Go.Proofs.YtplbdlgmjehckacGreatDoor
open Go.RowKit
set_option linter.unusedVariables false
set_option linter.unusedSimpArgs false
set_option maxRecDepth 100000 in
set_option maxHeartbeats 3200000 in
theorem foldTwice_any (s : B) (m : Int) (w : World) (hm : w.cell? ⟨0, 0, none⟩ = some (.int .i64 m)) (hs : s.length ≤ 9223372036854775807) :
  Calls Tryz.prog 4 #[.string (str s)] w fun e w' => e = .returned (.bool true) ∧ Kept (fun _ => False) w w' := by
 have HA := Lib.hid (alive6_any w m hm)
 have HM := Lib.hid hm
 clear hm
 go_enter Tryz.func4, Tryz.ntmps4
 go_wp2_with (go_at_call 21; refine HA.out.mono ?_; rintro e w1 ⟨rfl, hk1⟩)
 refine (fold_ways s m w1 (hk1.cell id HM.out) hs).mono ?_
 rintro e w2 ⟨hk2, h⟩
 have HK2 := Lib.hid (hk1.trans hk2)
 rcases h with ⟨a, p, rfl, hne⟩ | ⟨l, rules, st, t, T, rfl, hT, hst, hf⟩
 ·have hneI : ((a : Int) != 0) = true := by simp; omega
  clear hne hk1 hk2
  obtain ⟨wb, HWB⟩ : ∃ x, Hid (w2.alloc (.cells #[.int .i64 (a : Int), .int .i64 (p : Int)] 26 (0, 0)) = x) := ⟨_, rfl⟩
  have c0 : wb.cell? ⟨w2.heap.size, 0, none⟩ = some (.int .i64 (a : Int)) := by rw [← HWB.out]; exact cellIn (newIn w2 _) 0 rfl
  have HKB : Hid (Kept (fun _ => False) w wb) := Lib.hid (by rw [← HWB.out]; exact HK2.out.alloc _)
  go_upto_region 4 with fail
  rw [HWB.out]
  go_wp2_with fail
  go_ret
  exact ⟨rfl, HKB.out⟩
 ·obtain ⟨ms, qs, F⟩ := fold_reads hT hst.len hf
  have htl := F.dst.len
  have HC2 : Hid (∀ wx, wx.cell? ⟨0, 0, none⟩ = some (.int .i64 m) → Calls Tryz.prog 19 #[.string (str t)] wx fun e w' => e = .returned (.tuple #[.string (str t), .agg #[.int .i64 0, .int .i64 0]]) ∧ Kept (fun _ => False) wx w') :=
   Lib.hid (fun wx h => fold_is t m wx h (by omega) (as_read F.dst) (fun st' S' => fold_twice F hst S'))
  obtain ⟨wb, HWB⟩ : ∃ x, Hid (w2.alloc (.cells #[.int .i64 0, .int .i64 0] 26 (0, 0)) = x) := ⟨_, rfl⟩
  have hb0 : wb.heap[w2.heap.size]? = some (.cells #[.int .i64 0, .int .i64 0] 26 (0, 0)) := by rw [← HWB.out]; exact newIn w2 _
  have c0 : wb.cell? ⟨w2.heap.size, 0, none⟩ = some (.int .i64 0) := cellIn hb0 0 rfl
  have HKB : Hid (Kept (fun _ => False) w wb) := Lib.hid (by rw [← HWB.out]; exact HK2.out.alloc _)
  have HB0 := Lib.hid hb0
  have hw2 : w.heap.size ≤ w2.heap.size := HK2.out.size
  have HCC := Lib.hid (HC2.out wb (HKB.out.cell id HM.out))
  clear hk1 hk2 hT hst hf F htl hb0
  go_upto_region 4 with fail
  rw [HWB.out]
  go_wp2_with fail
  refine HCC.out.mono ?_
  rintro e w5 ⟨rfl, hk5⟩
  have h5 := hk5.heap id HB0.out
  have d0 : w5.cell? ⟨w2.heap.size, 0, none⟩ = some (.int .i64 0) := cellIn h5 0 rfl
  have d1 : w5.cell? ⟨w2.heap.size, 1, none⟩ = some (.int .i64 0) := cellIn h5 1 rfl
  have f0 : w5.frozen? ⟨w2.heap.size, 0, none⟩ = false := freeIn h5 0
  have f1 : w5.frozen? ⟨w2.heap.size, 1, none⟩ = false := freeIn h5 1
  have HFIN : Hid (Kept (fun _ => False) w ((w5.setCell ⟨w2.heap.size, 0, none⟩ (.int .i64 0)).setCell ⟨w2.heap.size, 1, none⟩ (.int .i64 0))) := Lib.hid (((HKB.out.trans hk5).setCell (.inr hw2) _).setCell (.inr hw2) _)
  clear hk5 h5
  go_wp2_with fail
  go_ret
  exact ⟨rfl, HFIN.out⟩
end Go.Proofs.YtplbdlgmjehckacGreatDoor

