/-
  inklaw3.page, one, alive.
-/
import Derived.Test.YtplbdlgmjehckaaDoorMtEq
namespace Go.Proofs.YtplbdlgmjehckaaDoor
open Go.RowKit
set_option linter.unusedVariables false
set_option linter.unusedSimpArgs false

/-- a block laid whole -/
theorem rows_new {w : World} {b size : Nat} {rows : List (List Value)} {cs : Array Value} {t : TypeId} {fz : Nat × Nat} (h : w.heap[b]? = some (.cells cs t fz)) (hc : cs = rows.flatten.toArray) (hl : ∀ r ∈ rows, r.length = size) {n : Nat} (hn : n = rows.length) (hm : rows.length ≤ maxLen) :
    RowsAt w size (.slice (some ⟨b, 0, none⟩) n n) rows :=
  by
  subst hn
  refine ⟨_, _, rfl, Nat.le_refl _, hm, fun _ => ⟨_, _, rfl, fun i r hr j c hj => ?_⟩⟩
  subst hc
  rw [show 0 + i * size + j = i * size + j by omega]
  exact cellIn h _ (by rw [List.getElem?_toArray]; exact flatten_get size rows hl i r hr j c hj)
def demoNodes : List PNode := [⟨[112], -1, [⟨[99, 108, 97, 115, 115], [97, 32, 98], 0, 0⟩], 0, 0, 0⟩, ⟨[98], 0, [], 0, 0, 0⟩, ⟨[105], 0, [⟨[105, 100], [113], 0, 0⟩], 0, 0, 0⟩]
set_option maxRecDepth 100000 in
set_option maxHeartbeats 1600000 in
theorem demo_any (w : World) : Calls Tryd.prog 32 #[] w fun e w' => ∃ v, e = .returned v ∧ NodesAt w' v demoNodes ∧ Kept (fun _ => False) w w' := by
  go_enter Tryd.func32, Tryd.ntmps32
  go_wp2_with fail
  go_ret
  have a1 := newIn w (.cells #[.string (str [99, 108, 97, 115, 115]), .string (str [97, 32, 98]), .int .i64 0, .int .i64 0] 88 (0, 0))
  have a2 := newIn (w.alloc (.cells #[.string (str [99, 108, 97, 115, 115]), .string (str [97, 32, 98]), .int .i64 0, .int .i64 0] 88 (0, 0))) (.cells #[.string (str [105, 100]), .string (str [113]), .int .i64 0, .int .i64 0] 88 (0, 0))
  have a3 := newIn ((w.alloc (.cells #[.string (str [99, 108, 97, 115, 115]), .string (str [97, 32, 98]), .int .i64 0, .int .i64 0] 88 (0, 0))).alloc (.cells #[.string (str [105, 100]), .string (str [113]), .int .i64 0, .int .i64 0] 88 (0, 0)))
    (.cells #[.string (str [112]), .int .i64 (-1), .slice (some ⟨w.heap.size, 0, none⟩) 1 1, .int .i64 0, .int .i64 0, .int .i64 0, .string (str [98]), .int .i64 0, .slice none 0 0, .int .i64 0, .int .i64 0, .int .i64 0, .string (str [105]), .int .i64 0, .slice (some ⟨w.heap.size + 1, 0, none⟩) 1 1, .int .i64 0, .int .i64 0, .int .i64 0] 79 (0, 0))
  simp only [World.size_alloc] at a2 a3
  refine ⟨_, rfl, ⟨[.slice (some ⟨w.heap.size, 0, none⟩) 1 1, .slice none 0 0, .slice (some ⟨w.heap.size + 1, 0, none⟩) 1 1], rfl, ?_, ?_⟩, (((Kept.refl _ w).alloc _).alloc _).alloc _⟩
  · exact rows_new a3 rfl (by simp [demoNodes, nodeCells]) rfl (by simp [demoNodes, maxLen])
  · intro i n av hn ha
    match i with
    | 0 => cases hn; cases ha; exact rows_new (oldIn (oldIn a1 _) _) rfl (by simp [demoNodes, attrCells]) rfl (by simp [demoNodes, maxLen])
    | 1 => cases hn; cases ha; exact RowsAt.nil _ _
    | 2 => cases hn; cases ha; exact rows_new (oldIn a2 _) rfl (by simp [demoNodes, attrCells]) rfl (by simp [demoNodes, maxLen])
    | i + 3 => simp [demoNodes] at hn
set_option maxRecDepth 100000 in
set_option maxHeartbeats 1600000 in
theorem one_any (k : Int) (name : B) (w : World) : Calls Tryd.prog 31 #[.int .i64 k, .string (str name)] w fun e w' => ∃ tv, e = .returned (.agg #[.int .i64 1, tv]) ∧ TestsAt w' tv [⟨k, name, []⟩] ∧ Kept (fun _ => False) w w' := by
  go_enter Tryd.func31, Tryd.ntmps31
  go_wp2_with fail
  have hn := newIn (w.alloc (.cells #[.int .i64 1, .slice (some ⟨w.heap.size + 1, 0, none⟩) 1 1] 45 (0, 0))) (.cells #[.int .i64 k, .string (str name), .string ⟨#[]⟩] 42 (0, 0))
  have h0 := oldIn (newIn w (.cells #[.int .i64 1, .slice (some ⟨w.heap.size + 1, 0, none⟩) 1 1] 45 (0, 0))) (.cells #[.int .i64 k, .string (str name), .string ⟨#[]⟩] 42 (0, 0))
  have hk : Kept (fun _ => False) w ((w.alloc (.cells #[.int .i64 1, .slice (some ⟨w.heap.size + 1, 0, none⟩) 1 1] 45 (0, 0))).alloc (.cells #[.int .i64 k, .string (str name), .string ⟨#[]⟩] 42 (0, 0))) := ((Kept.refl _ w).alloc _).alloc _
  simp only [World.size_alloc] at hn
  generalize (w.alloc (.cells #[.int .i64 1, .slice (some ⟨w.heap.size + 1, 0, none⟩) 1 1] 45 (0, 0))).alloc (.cells #[.int .i64 k, .string (str name), .string ⟨#[]⟩] 42 (0, 0)) = wz at *
  have z0 : wz.cell? ⟨w.heap.size, 0, none⟩ = some (.int .i64 1) := cellIn h0 0 rfl
  have z1 : wz.cell? ⟨w.heap.size, 1, none⟩ = some (.slice (some ⟨w.heap.size + 1, 0, none⟩) 1 1) := cellIn h0 1 rfl
  refine bodyPost_ret (v := .agg #[.int .i64 1, .slice (some ⟨w.heap.size + 1, 0, none⟩) 1 1]) (by simp [results, Tryd.results31, go_sem, z0, z1]) rfl ?_
  exact ⟨_, rfl, rows_new hn rfl (by simp [testCells]) rfl (by simp [maxLen]), hk⟩

def demoSel : PSel := [⟨1, [⟨2, [98], []⟩]⟩, ⟨1, [⟨3, [113], []⟩]⟩]
theorem demo_ctx : MtCtx demoNodes := by
  refine ⟨?_, by simp [demoNodes], ?_⟩
  · intro n hn a ha
    simp [demoNodes] at hn
    rcases hn with rfl | rfl | rfl <;> (simp at ha; try (subst ha; simp))
  · intro n hn
    simp [demoNodes] at hn
    rcases hn with rfl | rfl | rfl <;> simp
theorem demo_two : mMatches demoNodes 2 demoSel = true := by decide +kernel
theorem demo_one : mMatches demoNodes 1 demoSel = false := by decide +kernel
theorem demo_weight : mWeigh demoSel = ⟨1, 1, 0⟩ := by decide +kernel

set_option maxRecDepth 100000 in
set_option maxHeartbeats 3200000 in
theorem alive3_any (w : World) (m : Int) (hm : w.cell? ⟨0, 0, none⟩ = some (.int .i64 m)) : Calls Tryd.prog 19 #[] w fun e w' => e = .returned (.bool true) ∧ Kept (fun _ => False) w w' := by
  have HM := Lib.hid hm
  have HCX := Lib.hid demo_ctx
  clear hm
  go_enter Tryd.func19, Tryd.ntmps19
  go_wp2_with fail
  refine (one_any 2 [98] w).mono ?_
  rintro e w1 ⟨t1, rfl, ht1, hk1⟩
  obtain ⟨a1, c1, rfl, hc1, hc1'⟩ := TestsAt.form ht1
  unfold maxLen at hc1'
  have HT1 := Lib.hid ht1
  have HK1 := Lib.hid hk1
  clear ht1 hk1
  go_wp2_with fail
  refine (one_any 3 [113] w1).mono ?_
  rintro e w2 ⟨t2, rfl, ht2, hk2⟩
  obtain ⟨a2, c2, rfl, hc2, hc2'⟩ := TestsAt.form ht2
  unfold maxLen at hc2'
  have HT2 := Lib.hid ht2
  have HK2 := Lib.hid hk2
  clear ht2 hk2
  go_upto_region 2 with fail
  obtain ⟨wa, HWA⟩ : ∃ x, Hid (w2.alloc (.cells #[.int .i64 1, .slice a1 1 c1, .int .i64 1, .slice a2 1 c2] 45 (0, 0)) = x) := ⟨_, rfl⟩
  have hka : Kept (fun _ => False) w2 wa := by rw [← HWA.out]; exact (Kept.refl _ w2).alloc _
  have hp : PartsAt wa (.slice (some ⟨w2.heap.size, 0, none⟩) 2 2) demoSel := by
    refine ⟨[.slice a1 1 c1, .slice a2 1 c2], rfl, ?_, ?_⟩
    · rw [← HWA.out]
      exact rows_new (newIn w2 _) rfl (by simp [demoSel, partCells]) rfl (by simp [demoSel, maxLen])
    · intro i n av hn ha
      match i with
      | 0 => cases hn; cases ha; exact tests_firm.kept (tests_firm.kept HT1.out HK2.out) hka
      | 1 => cases hn; cases ha; exact tests_firm.kept HT2.out hka
      | i + 2 => simp [demoSel] at hn
  have HP := Lib.hid hp
  have KA := Lib.hid ((HK1.out.trans HK2.out).trans hka)
  clear hp hka
  rw [HWA.out]
  go_wp2_with fail
  refine (demo_any wa).mono ?_
  rintro e w3 ⟨v3, rfl, hv3, hk3⟩
  obtain ⟨a3, c3, rfl, hc3, hc3'⟩ := NodesAt.form hv3
  unfold maxLen at hc3'
  have HC := Lib.hid (matches_any demoNodes HCX.out demoSel m w3 _ _ 2 hv3 (parts_firm.kept HP.out hk3) (by omega) ((KA.out.trans hk3).cell id HM.out))
  rw [demo_two] at HC
  have K3 := Lib.hid (KA.out.trans hk3)
  have HP3 := Lib.hid (parts_firm.kept HP.out hk3)
  clear hv3 hk3
  go_wp2_with fail
  refine HC.out.mono ?_
  rintro e w4 ⟨rfl, hk4⟩
  have K4 := Lib.hid (K3.out.trans hk4)
  have HP4 := Lib.hid (parts_firm.kept HP3.out hk4)
  clear hk4
  go_wp2_with fail
  refine (demo_any w4).mono ?_
  rintro e w5 ⟨v5, rfl, hv5, hk5⟩
  obtain ⟨a5, c5, rfl, hc5, hc5'⟩ := NodesAt.form hv5
  unfold maxLen at hc5'
  have HC2 := Lib.hid (matches_any demoNodes HCX.out demoSel m w5 _ _ 1 hv5 (parts_firm.kept HP4.out hk5) (by omega) ((K4.out.trans hk5).cell id HM.out))
  rw [demo_one] at HC2
  have K5 := Lib.hid (K4.out.trans hk5)
  have HP5 := Lib.hid (parts_firm.kept HP4.out hk5)
  clear hv5 hk5
  go_wp2_with fail
  refine HC2.out.mono ?_
  rintro e w6 ⟨rfl, hk6⟩
  have K6 := Lib.hid (K5.out.trans hk6)
  have HC3 := Lib.hid (weigh_any demoSel w6 _ (parts_firm.kept HP5.out hk6) (by simp [demoSel, nTests]))
  rw [demo_weight] at HC3
  clear hk6
  go_wp2_with fail
  refine HC3.out.mono ?_
  rintro e w7 ⟨rfl, hk7⟩
  have K7 := Lib.hid (K6.out.trans hk7)
  clear hk7
  unfold wtVal
  have he : (Op.equalIn 10000 47 (.agg #[.int .i64 1, .int .i64 1, .int .i64 0]) (.agg #[.int .i64 1, .int .i64 1, .int .i64 0])).run Tryd.prog w7 = .ok true w7 := eq_weight ⟨1, 1, 0⟩ ⟨1, 1, 0⟩ w7
  go_wp2_with fail
  go_ret
  exact ⟨rfl, K7.out⟩
end Go.Proofs.YtplbdlgmjehckaaDoor
