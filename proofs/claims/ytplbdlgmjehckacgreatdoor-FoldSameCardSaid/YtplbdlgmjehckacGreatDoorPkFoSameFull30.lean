/-
 Lemmas for the claims of this seat: the program's functions walked, and plain laws. In this order: R3Weigh MtLess R3Best R3Words.
-/
import Derived.Test.YtplbdlgmjehckacGreatDoorPk13
import Derived.Test.YtplbdlgmjehckacGreatDoorPk15
import Derived.Test.YtplbdlgmjehckacGreatDoorPkFoSameFull29
import Derived.Test.YtplbdlgmjehckacGreatDoorPk4
import Derived.Test.YtplbdlgmjehckacGreatDoorPk9
import Derived.Test.YtplbdlgmjehckacGreatDoorPk14
import Derived.Deep.DeepCutAuto
import Derived.Deep.CutBlock
import Derived.Deep.Light
import Derived.Deep.LoopGhost
import Derived.Deep.RegionHeld3
namespace Go.Proofs.YtplbdlgmjehckacGreatDoor
open Go.RowKit
set_option linter.unusedVariables false
set_option linter.unusedSimpArgs false
def assocI (l : List (Int × Value)) : Value → Option Value
 | .int .i64 k => (l.find? fun x => x.1 == k).map (·.2)
 | _ => none
theorem assoc_push {l : List (Int × Value)} {k : Int} {v : Value} (h : ∀ x ∈ l, x.1 ≠ k) : assocI (l ++ [(k, v)]) (.int .i64 k) = some v := by
 show (((l ++ [(k, v)]).find? fun x => x.1 == k).map (·.2)) = some v
 rw [List.find?_append]
 have : l.find? (fun x => x.1 == k) = none := by
  rw [List.find?_eq_none]
  intro x hx
  simpa using h x hx
 rw [this]
 simp
theorem assoc_other {l : List (Int × Value)} {k : Int} {v : Value} : ∀ y, MapKept.IsKey (.int .i64) y → y ≠ .int .i64 k → assocI (l ++ [(k, v)]) y = assocI l y := by
 intro y hy hne
 cases y with
 | int q j =>
  have : q = .i64 := hy
  subst this
  have hj : ¬ k = j := fun e => hne (by rw [e])
  show (((l ++ [(k, v)]).find? fun x => x.1 == j).map (·.2)) = (l.find? fun x => x.1 == j).map (·.2)
  rw [List.find?_append]
  have : ([(k, v)] : List (Int × Value)).find? (fun x => x.1 == j) = none := by simp [hj]
  rw [this]
  simp
 | _ => exact absurd hy (by simp [MapKept.IsKey])
theorem assoc_none : (fun _ => none : Value → Option Value) = assocI [] := by
 funext y
 cases y with
 | int q j => cases q <;> rfl
 | _ => rfl
section
variable {P : Program} {mty kt et : TypeId}
theorem MapFn.push {w : World} {b : Nat} {l : List (Int × Value)} (h : MapFn (.int .i64) w b (assocI l)) (hm : P.underlying mty = some (.map kt et)) (hd : P.underlying kt = some (.int .i64)) (k : Int) (v : Value) (hk : ∀ x ∈ l, x.1 ≠ k) :
  ∃ w', (Instr.mapUpdate mty (.map (some b)) (.int .i64 k) v).run P w = .ok () w' ∧ MapFn (.int .i64) w' b (assocI (l ++ [(k, v)])) ∧ Kept (· = b) w w' := by
 obtain ⟨w', h1, h2, h3, _⟩ := h.update hm hd (k := .int .i64 k) (v := v) (by trivial) (assoc_push hk) assoc_other
 exact ⟨w', h1, h2, h3⟩
end
def wtList : List (Int × Value) := [(3, .int .i64 0), (2, .int .i64 1), (4, .int .i64 1), (5, .int .i64 1), (6, .int .i64 1), (1, .int .i64 2)]
set_option maxRecDepth 20000 in
theorem wt_made (w : World) : ∃ u1 u2 u3 u4 u5 u6,
  (Instr.mapUpdate 216 (.map (some w.heap.size)) (.int .i64 3) (.int .i64 0)).run Tryz.prog (w.alloc (.map #[] 0)) = .ok () u1 ∧
  (Instr.mapUpdate 216 (.map (some w.heap.size)) (.int .i64 2) (.int .i64 1)).run Tryz.prog u1 = .ok () u2 ∧
  (Instr.mapUpdate 216 (.map (some w.heap.size)) (.int .i64 4) (.int .i64 1)).run Tryz.prog u2 = .ok () u3 ∧
  (Instr.mapUpdate 216 (.map (some w.heap.size)) (.int .i64 5) (.int .i64 1)).run Tryz.prog u3 = .ok () u4 ∧
  (Instr.mapUpdate 216 (.map (some w.heap.size)) (.int .i64 6) (.int .i64 1)).run Tryz.prog u4 = .ok () u5 ∧
  (Instr.mapUpdate 216 (.map (some w.heap.size)) (.int .i64 1) (.int .i64 2)).run Tryz.prog u5 = .ok () u6 ∧
  MapFn (.int .i64) u6 w.heap.size (assocI wtList) ∧ Kept (fun _ => False) w u6 := by
 have M0 : MapFn (.int .i64) (w.alloc (.map #[] 0)) w.heap.size (assocI []) := by rw [← assoc_none]; exact MapFn.made _ w
 obtain ⟨u1, r1, M1, k1⟩ := M0.push (P := Tryz.prog) Tryz.underlying216 Tryz.underlying3 3 (.int .i64 0) (by simp)
 obtain ⟨u2, r2, M2, k2⟩ := M1.push (P := Tryz.prog) Tryz.underlying216 Tryz.underlying3 2 (.int .i64 1) (by simp)
 obtain ⟨u3, r3, M3, k3⟩ := M2.push (P := Tryz.prog) Tryz.underlying216 Tryz.underlying3 4 (.int .i64 1) (by simp)
 obtain ⟨u4, r4, M4, k4⟩ := M3.push (P := Tryz.prog) Tryz.underlying216 Tryz.underlying3 5 (.int .i64 1) (by simp)
 obtain ⟨u5, r5, M5, k5⟩ := M4.push (P := Tryz.prog) Tryz.underlying216 Tryz.underlying3 6 (.int .i64 1) (by simp)
 obtain ⟨u6, r6, M6, k6⟩ := M5.push (P := Tryz.prog) Tryz.underlying216 Tryz.underlying3 1 (.int .i64 2) (by simp)
 refine ⟨u1, u2, u3, u4, u5, u6, r1, r2, r3, r4, r5, r6, M6, ?_⟩
 exact ((Kept.refl _ w).alloc _).trans' (((((k1.trans k2).trans k3).trans k4).trans k5).trans k6) (fun i hi (h : i = w.heap.size) => by omega)
theorem wt_zero (w : World) : (zeroValue 3).run Tryz.prog w = .ok (.int .i64 0) w := by kernel_rfl
set_option maxRecDepth 20000 in
theorem wt_look {u : World} {b : Nat} (h : MapFn (.int .i64) u b (assocI wtList)) (k : Int) : (Instr.lookup 216 (.map (some b)) (.int .i64 k) true).run Tryz.prog u =
  .ok (.tuple #[if k = 3 then .int .i64 0 else if k = 1 then .int .i64 2 else if k = 2 ∨ k = 4 ∨ k = 5 ∨ k = 6 then .int .i64 1 else .int .i64 0, .bool (decide (k = 3 ∨ k = 1 ∨ k = 2 ∨ k = 4 ∨ k = 5 ∨ k = 6))]) u := by
 by_cases h3 : k = 3
 ·subst h3; exact h.hit (P := Tryz.prog) Tryz.underlying216 Tryz.underlying3 (by trivial) rfl true
 by_cases h1 : k = 1
 ·subst h1; exact h.hit (P := Tryz.prog) Tryz.underlying216 Tryz.underlying3 (by trivial) rfl true
 by_cases h2 : k = 2
 ·subst h2; exact h.hit (P := Tryz.prog) Tryz.underlying216 Tryz.underlying3 (by trivial) rfl true
 by_cases h4 : k = 4
 ·subst h4; exact h.hit (P := Tryz.prog) Tryz.underlying216 Tryz.underlying3 (by trivial) rfl true
 by_cases h5 : k = 5
 ·subst h5; exact h.hit (P := Tryz.prog) Tryz.underlying216 Tryz.underlying3 (by trivial) rfl true
 by_cases h6 : k = 6
 ·subst h6; exact h.hit (P := Tryz.prog) Tryz.underlying216 Tryz.underlying3 (by trivial) rfl true
 have hn : assocI wtList (.int .i64 k) = none := by
  show ((wtList.find? fun x => x.1 == k).map (·.2)) = none
  have : wtList.find? (fun x => x.1 == k) = none := by
   rw [List.find?_eq_none]
   intro x hx
   simp only [wtList, List.mem_cons, List.not_mem_nil, or_false] at hx
   rcases hx with rfl | rfl | rfl | rfl | rfl | rfl <;> simp <;> omega
  rw [this]; rfl
 have := h.miss (P := Tryz.prog) (mty := 216) Tryz.underlying216 Tryz.underlying3 (k := .int .i64 k) (by trivial) hn (wt_zero u) true
 rw [this]
 simp [h1, h2, h3, h4, h5, h6]
theorem WLp.by_kept {w wr wx : World} {x : PWt} {n : Nat} (h : WLp w wr x n) (hk : Kept (fun _ => False) wr wx) : WLp w wx x n := ⟨hk.heap id h.at_, hk.heap id h.res, h.kept.trans hk, h.low⟩
set_option maxRecDepth 100000 in
set_option maxHeartbeats 3200000 in
theorem rweigh_any (s : PSel) (w : World) (sv : Value) (hp : PartsAt w sv s) (hn : nTests s ≤ 1048576) :
  Calls Tryz.prog 100 #[sv] w fun e w' => e = .returned (wtVal (mWeigh s)) ∧ Kept (fun _ => False) w w' := by
 obtain ⟨pa, pcap, rfl, hpc1, hpc2⟩ := NestAt.form hp
 unfold maxLen at hpc2
 have HP := Lib.hid hp
 have HN := Lib.hid hn
 clear hp hn
 have hw0 : WLp w ((w.alloc (.cells #[.int .i64 0, .int .i64 0, .int .i64 0] 119 (0, 0))).alloc (.cells #[.int .i64 0, .int .i64 0, .int .i64 0] 119 (0, 0))) ⟨0, 0, 0⟩ 0 := by
  refine ⟨?_, oldIn (newIn w _) _, ((Kept.refl _ w).alloc _).alloc _, Nat.le_refl _, Nat.le_refl _, Nat.le_refl _⟩
  have := newIn (w.alloc (.cells #[.int .i64 0, .int .i64 0, .int .i64 0] 119 (0, 0))) (.cells #[.int .i64 0, .int .i64 0, .int .i64 0] 119 (0, 0))
  simpa [WtAt] using this
 have HW0 := Lib.hid hw0
 clear hw0
 go_enter Tryz.func100, Tryz.ntmps100
 go_wp2_with fail
 go_loopw [12] (fun i wr => ∃ (k : Nat) (x : PWt), k ≤ List.length s ∧ i = .int .i64 k ∧ Hid (WLp w wr x (nTests (s.take k))) ∧ Hid ((s.take k).foldl wPart ⟨0, 0, 0⟩ = x)) (fun i _ => List.length s - (intOf i).toNat)
 case atStart => exact ⟨0, ⟨0, 0, 0⟩, by omega, rfl, HW0, Lib.hid rfl⟩
 case round =>
  obtain ⟨i, x0, hi, rfl, HL, HX0⟩ := hrel
  obtain ⟨wr0, hwr0⟩ : ∃ x, x = wr := ⟨_, rfl⟩
  subst hwr0
  by_cases hlt : i < List.length s
  ·have hx := List.getElem?_eq_getElem hlt
   generalize hgx : s[i] = p at hx
   clear hgx
   obtain ⟨pb, po, tv, rfl, hpc, hpt⟩ := NestAt.at HP.out hx
   have p0 : wr0.cell? ⟨pb, po + i * 2, none⟩ = some (.int .i64 p.join) := HL.out.kept.cell id (hpc 0 _ rfl)
   have p1 : wr0.cell? ⟨pb, po + i * 2 + 1, none⟩ = some tv := HL.out.kept.cell id (hpc 1 _ rfl)
   obtain ⟨ta, tc, rfl, htc1, htc2⟩ := TestsAt.form hpt
   unfold maxLen at htc2
   have hnt := nTests_take s i hx
   have hnl := nTests_le s (i + 1)
   have HNT := Lib.hid hnt
   have hbase : Hid (nTests (s.take i) + p.tests.length ≤ 1048576) := Lib.hid (by have := HN.out; omega)
   have HX := Lib.hid hx
   have HPT := Lib.hid hpt
   clear hx hpc hpt hnt hnl
   go_upto_region 5 with fail
   obtain ⟨wa, HWA⟩ : ∃ x', Hid (wr0.alloc (.cells #[.int .i64 p.join, .slice ta p.tests.length tc] 156 (0, 0)) = x') := ⟨_, rfl⟩
   have c1 : wa.cell? ⟨wr0.heap.size, 1, none⟩ = some (.slice ta p.tests.length tc) := by rw [← HWA.out]; exact cellIn (newIn wr0 _) 1 rfl
   have HLA : Hid (WLp w wa x0 (nTests (s.take i))) := Lib.hid (by rw [← HWA.out]; exact HL.out.alloc _)
   clear p0 p1
   rw [HWA.out]
   go_wp2_with fail
   go_loopw [19] (fun j wx => ∃ (l : Nat) (x : PWt), l ≤ p.tests.length ∧ j = .int .i64 l ∧ Hid (WLp w wx x (nTests (s.take i) + l)) ∧ Hid ((p.tests.take l).foldl wTest x0 = x)) (fun j _ => p.tests.length - (intOf j).toNat)
   case atStart => exact ⟨0, x0, by omega, rfl, HLA, Lib.hid rfl⟩
   case round =>
    obtain ⟨l, x, hl, rfl, HM, HXJ⟩ := hrel
    by_cases hlt2 : l < p.tests.length
    ·have hy := List.getElem?_eq_getElem hlt2
     generalize hgy : p.tests[l] = t at hy
     clear hgy
     obtain ⟨tb, to_, rfl, t0, t1, t2⟩ := TestsAt.at (tests_firm.kept HPT.out HM.out.kept) hy
     have HY := Lib.hid hy
     clear hy
     go_upto_region 8 with fail
     obtain ⟨wb, HWB⟩ : ∃ x', Hid (wr.alloc (.cells #[.int .i64 t.kind, .string (str t.name), .string (str t.val)] 158 (0, 0)) = x') := ⟨_, rfl⟩
     have d0 : wb.cell? ⟨wr.heap.size, 0, none⟩ = some (.int .i64 t.kind) := by rw [← HWB.out]; exact cellIn (newIn wr _) 0 rfl
     have HMB : Hid (WLp w wb x (nTests (s.take i) + l)) := Lib.hid (by rw [← HWB.out]; exact HM.out.alloc _)
     rw [HWB.out]
     clear t0 t1 t2
     obtain ⟨u1, u2, u3, u4, u5, u6, r1, r2, r3, r4, r5, r6, M6, k6⟩ := wt_made wb
     have e0 := run_made (P := Tryz.prog) wb 216
     have d6 := k6.cell id d0
     have HL6 := Lib.hid (HMB.out.by_kept k6)
     have hnx : Hid ((p.tests.take (l + 1)).foldl wTest x0 = wTest x t) := Lib.hid (by
      rw [List.take_add_one, HY.out, Option.toList_some, List.foldl_append, HXJ.out]; rfl)
     have hlw := Lib.hid (wTest_low HL6.out.low t)
     obtain ⟨x1, x2, x3⟩ := HL6.out.cell
     have hlow := HL6.out.low
     obtain ⟨l1, l2, l3⟩ := hlow
     have hb1 := hbase.out
     have fz := freeIn HL6.out.at_
     have f0 := fz 0
     have f1 := fz 1
     have f2 := fz 2
     obtain ⟨xa, xb, xc⟩ := x
     simp only at x1 x2 x3 l1 l2 l3
     have hlk := wt_look M6 t.kind
     clear fz k6 M6
     by_cases k3 : t.kind = 3
     ·have hy : Hid (wTest ⟨xa, xb, xc⟩ t = ⟨xa + 1, xb, xc⟩) := Lib.hid (by simp [wTest, k3])
      have hlk2 : (Instr.lookup 216 (.map (some wb.heap.size)) (.int .i64 t.kind) true).run Tryz.prog u6 = .ok (.tuple #[.int .i64 0, .bool true]) u6 := by rw [hlk]; simp [k3]
      rw [hy.out] at hnx hlw
      clear k3 hlk
      go_wp2_with fail
      go_roundw
      case measure => simp [intOf]; omega
      case rel => exact ⟨l + 1, _, by omega, by go_num, Lib.hid (HL6.out.put 0 _ (by simp) hlw.out), hnx⟩
     ·by_cases k1 : t.kind = 1
      ·have hy : Hid (wTest ⟨xa, xb, xc⟩ t = ⟨xa, xb, xc + 1⟩) := Lib.hid (by simp [wTest, k1])
       have hlk2 : (Instr.lookup 216 (.map (some wb.heap.size)) (.int .i64 t.kind) true).run Tryz.prog u6 = .ok (.tuple #[.int .i64 2, .bool true]) u6 := by rw [hlk]; simp [k1]
       rw [hy.out] at hnx hlw
       clear k3 k1 hlk
       go_wp2_with fail
       go_roundw
       case measure => simp [intOf]; omega
       case rel => exact ⟨l + 1, _, by omega, by go_num, Lib.hid (HL6.out.put 2 _ (by simp) hlw.out), hnx⟩
      ·by_cases k2 : t.kind = 2 ∨ t.kind = 4 ∨ t.kind = 5 ∨ t.kind = 6
       ·have hy : Hid (wTest ⟨xa, xb, xc⟩ t = ⟨xa, xb + 1, xc⟩) := Lib.hid (by unfold wTest; rw [if_neg k3, if_neg k1, if_pos k2])
        have hlk2 : (Instr.lookup 216 (.map (some wb.heap.size)) (.int .i64 t.kind) true).run Tryz.prog u6 = .ok (.tuple #[.int .i64 1, .bool true]) u6 := by rw [hlk, if_neg k3, if_neg k1, if_pos k2]; simp [k2]
        rw [hy.out] at hnx hlw
        clear k3 k1 k2 hlk
        go_wp2_with fail
        go_roundw
        case measure => simp [intOf]; omega
        case rel => exact ⟨l + 1, _, by omega, by go_num, Lib.hid (HL6.out.put 1 _ (by simp) hlw.out), hnx⟩
       ·have hy : Hid (wTest ⟨xa, xb, xc⟩ t = ⟨xa, xb, xc⟩) := Lib.hid (by unfold wTest; rw [if_neg k3, if_neg k1, if_neg k2])
        have hlk2 : (Instr.lookup 216 (.map (some wb.heap.size)) (.int .i64 t.kind) true).run Tryz.prog u6 = .ok (.tuple #[.int .i64 0, .bool false]) u6 := by rw [hlk, if_neg k3, if_neg k1, if_neg k2]; simp [k1, k3, k2]
        rw [hy.out] at hnx hlw
        clear k3 k1 k2 hlk
        go_wp2_with fail
        go_roundw
        case measure => simp [intOf]; omega
        case rel => exact ⟨l + 1, _, by omega, by go_num, Lib.hid ⟨HL6.out.at_, HL6.out.res, HL6.out.kept, hlw.out⟩, hnx⟩
    ·obtain rfl : l = p.tests.length := by omega
     have hnx : Hid ((s.take (i + 1)).foldl wPart ⟨0, 0, 0⟩ = x) := Lib.hid (by
      rw [List.take_add_one, HX.out, Option.toList_some, List.foldl_append, HX0.out]
      have := HXJ.out
      rw [List.take_length] at this
      exact this)
     have hlr : Hid (WLp w wr x (nTests (s.take (i + 1)))) := Lib.hid ⟨HM.out.at_, HM.out.res, HM.out.kept, by rw [HNT.out]; exact HM.out.low⟩
     go_wp2_with fail
     go_roundw
     case measure => simp [intOf]; omega
     case rel => exact ⟨i + 1, x, by omega, by go_num, hlr, hnx⟩
  ·obtain rfl : i = List.length s := by omega
   obtain ⟨x1, x2, x3⟩ := HL.out.cell
   have r0 := freeIn HL.out.res 0
   have r1 := freeIn HL.out.res 1
   have r2 := freeIn HL.out.res 2
   have q0 : wr0.cell? ⟨w.heap.size, 0, none⟩ = some (.int .i64 ((0 : Nat) : Int)) := cellIn HL.out.res 0 rfl
   have q1 : wr0.cell? ⟨w.heap.size, 1, none⟩ = some (.int .i64 ((0 : Nat) : Int)) := cellIn HL.out.res 1 rfl
   have q2 : wr0.cell? ⟨w.heap.size, 2, none⟩ = some (.int .i64 ((0 : Nat) : Int)) := cellIn HL.out.res 2 rfl
   have hfin : Hid (mWeigh s = x0) := Lib.hid (by have := HX0.out; rw [List.take_length] at this; exact this)
   go_wp2_with fail
   have hz : (((wr0.setCell ⟨w.heap.size, 0, none⟩ (.int .i64 (x0.a : Int))).setCell ⟨w.heap.size, 1, none⟩ (.int .i64 (x0.b : Int))).setCell ⟨w.heap.size, 2, none⟩ (.int .i64 (x0.c : Int))).heap[w.heap.size]? = some (.cells #[.int .i64 (x0.a : Int), .int .i64 (x0.b : Int), .int .i64 (x0.c : Int)] 119 (0, 0)) := by
    have := setIn (setIn (setIn HL.out.res 0 (.int .i64 (x0.a : Int))) 1 (.int .i64 (x0.b : Int))) 2 (.int .i64 (x0.c : Int))
    simpa using this
   have kz : Kept (fun _ => False) w (((wr0.setCell ⟨w.heap.size, 0, none⟩ (.int .i64 (x0.a : Int))).setCell ⟨w.heap.size, 1, none⟩ (.int .i64 (x0.b : Int))).setCell ⟨w.heap.size, 2, none⟩ (.int .i64 (x0.c : Int))) := ((HL.out.kept.setCell (p := ⟨w.heap.size, 0, none⟩) (.inr (Nat.le_refl _)) _).setCell (p := ⟨w.heap.size, 1, none⟩) (.inr (Nat.le_refl _)) _).setCell (p := ⟨w.heap.size, 2, none⟩) (.inr (Nat.le_refl _)) _
   generalize (((wr0.setCell ⟨w.heap.size, 0, none⟩ (.int .i64 (x0.a : Int))).setCell ⟨w.heap.size, 1, none⟩ (.int .i64 (x0.b : Int))).setCell ⟨w.heap.size, 2, none⟩ (.int .i64 (x0.c : Int))) = wz at *
   have z0 : wz.cell? ⟨w.heap.size, 0, none⟩ = some (.int .i64 (x0.a : Int)) := cellIn hz 0 rfl
   have z1 : wz.cell? ⟨w.heap.size, 1, none⟩ = some (.int .i64 (x0.b : Int)) := cellIn hz 1 rfl
   have z2 : wz.cell? ⟨w.heap.size, 2, none⟩ = some (.int .i64 (x0.c : Int)) := cellIn hz 2 rfl
   refine bodyPost_ret (v := wtVal x0) (by simp [results, Tryz.results100, go_sem, z0, z1, z2, wtVal]) rfl ?_
   rw [hfin.out]
   exact ⟨rfl, kz⟩
set_option maxRecDepth 100000 in
set_option maxHeartbeats 1600000 in
theorem less_any (w : World) (x y : PWt) (hx : x.low 1048576) (hy : y.low 1048576) :
  Calls Tryz.prog 91 #[.agg #[.int .i64 (x.a : Int), .int .i64 (x.b : Int), .int .i64 (x.c : Int)], .agg #[.int .i64 (y.a : Int), .int .i64 (y.b : Int), .int .i64 (y.c : Int)]] w fun e w' => e = .returned (.bool (wLt x y)) ∧ Kept (fun _ => False) w w' := by
 have HX := Lib.hid hx
 have HY := Lib.hid hy
 obtain ⟨wa, HWA⟩ : ∃ z, Hid ((w.alloc (.cells #[.int .i64 (x.a : Int), .int .i64 (x.b : Int), .int .i64 (x.c : Int)] 119 (0, 0))).alloc (.cells #[.int .i64 (y.a : Int), .int .i64 (y.b : Int), .int .i64 (y.c : Int)] 119 (0, 0)) = z) := ⟨_, rfl⟩
 have hxa : WtAt wa w.heap.size x := by rw [← HWA.out]; exact oldIn (newIn w _) _
 have hya : WtAt wa (w.heap.size + 1) y := by
  rw [← HWA.out]
  have := newIn (w.alloc (.cells #[.int .i64 (x.a : Int), .int .i64 (x.b : Int), .int .i64 (x.c : Int)] 119 (0, 0))) (.cells #[.int .i64 (y.a : Int), .int .i64 (y.b : Int), .int .i64 (y.c : Int)] 119 (0, 0))
  simpa [WtAt] using this
 have KA : Hid (Kept (fun _ => False) w wa) := Lib.hid (by rw [← HWA.out]; exact ((Kept.refl _ w).alloc _).alloc _)
 have HXA := Lib.hid hxa
 have HYA := Lib.hid hya
 obtain ⟨r, HR⟩ : ∃ r, Hid (wLt x y = r) := ⟨_, rfl⟩
 rw [HR.out]
 clear hx hy hxa hya
 obtain ⟨j1, hj1, hy0, hy1, hy2⟩ := info_parts (show (Tryz.prog.info? 3).map (fun i => (i.zero, i.size, i.bytes)) = some (some (.int .i64 0), 1, 8) by kernel_rfl)
 go_enter Tryz.func91, Tryz.ntmps91
 go_upto_block 0 with fail
 rw [HWA.out]
 go_wp2_with fail
 go_loopw [6] (fun i wr => ∃ k : Nat, k ≤ 3 ∧ i = .int .i64 k ∧ (∃ n, wr = wa.drewN n) ∧ Hid (Same3 x y k)) (fun i _ => 3 - (intOf i).toNat)
 case atStart => exact ⟨0, by omega, rfl, ⟨0, rfl⟩, Lib.hid ⟨by omega, by omega, by omega⟩⟩
 case round =>
  obtain ⟨k, hk, rfl, ⟨n0, rfl⟩, HS⟩ := hrel
  by_cases hlt : k < 3
  ·obtain ⟨u, v, c1, c2, hu, hv, hA, hB, hC⟩ := cmp_step (w := wa) (HXA.out.ints) (HYA.out.ints) HX.out HY.out hlt HS.out
   have HA := Lib.hid hA
   have HB := Lib.hid hB
   have HC := Lib.hid hC
   clear hA hB hC
   have ed : decide ((k : Int) < 3) = true := by simp; omega
   have ee : decide (3 ≤ (k : Int)) = false := by simp; omega
   have e9 : (k : Int) < 3 := by omega
   rw [Nat.zero_add] at c1 c2
   by_cases g1 : u < v
   ·have hr : Hid (true = r) := Lib.hid (by rw [← HR.out]; exact (HA.out g1).2.symm)
    have e1 : ((u : Int) == (v : Int)) = false := by simp; omega
    have e2 : decide ((u : Int) < (v : Int)) = true := by simp; omega
    go_upto_region 4 with fail
    go_quiet (fail)
    go_upto_region 5 with fail
    go_quiet (fail)
    go_wp2_with fail
    go_ret
    exact ⟨retb hr.out, ((KA.out.drewN _).drewN _).drewN _⟩
   ·by_cases g2 : v < u
    ·have hr : Hid (false = r) := Lib.hid (by rw [← HR.out]; exact (wLt_asymm (HB.out g2)).symm)
     have e1 : ((u : Int) == (v : Int)) = false := by simp; omega
     have e2 : decide ((u : Int) < (v : Int)) = false := by simp; omega
     go_upto_region 4 with fail
     go_quiet (fail)
     go_upto_region 5 with fail
     go_quiet (fail)
     go_wp2_with fail
     go_ret
     exact ⟨retb hr.out, ((KA.out.drewN _).drewN _).drewN _⟩
    ·have e3 : u = v := by omega
     subst e3
     have hs := HC.out rfl
     go_upto_region 4 with fail
     go_quiet (fail)
     go_wp2_with fail
     go_roundw
     case measure => simp [intOf]; omega
     case rel => exact ⟨k + 1, by omega, by go_num, ⟨_, rfl⟩, Lib.hid hs⟩
  ·obtain rfl : k = 3 := by omega
   go_wp2_with fail
   go_ret
   refine ⟨retb ?_, KA.out.drewN _⟩
   rw [← HR.out]
   obtain ⟨s0, s1, s2⟩ := HS.out
   have h1 := s0 (by omega)
   have h2 := s1 (by omega)
   have h3 := s2 (by omega)
   simp [wLt]; omega
set_option maxRecDepth 100000 in
set_option maxHeartbeats 3200000 in
theorem rbest_any (ns : List PNode) (hns : MtCtx ns) (r : PRule) (u : Value) (m : Int) (w : World) (v : Value) (k : Int) (hv : NodesAt w v ns) (hr : RuleAt w u r) (hf : FewTests r.sels) (hk : -9223372036854775808 ≤ k ∧ k ≤ 9223372036854775807) (hm : w.cell? ⟨0, 0, none⟩ = some (.int .i64 m)) :
  Calls Tryz.prog 61 #[v, .int .i64 k, ruleVal r u] w (BestEnds w (mBest ns k r.sels)) := by
 obtain ⟨sv, dv, rfl, hs, hd⟩ := hr
 obtain ⟨na, ncap, rfl, hnc1, hnc2⟩ := hv.form
 unfold maxLen at hnc2
 have hnsf := hns.few
 obtain ⟨sa, scap, rfl, hsc1, hsc2⟩ := NestAt.form hs
 obtain ⟨da, dcap, rfl, hdc1, hdc2⟩ := DeclsAt.form hd
 unfold maxLen at hsc2 hdc2
 have hfew := hf.1
 have HV := Lib.hid hv
 have HSL := Lib.hid hs
 have HF := Lib.hid hf.2
 have HM := Lib.hid hm
 have HK := Lib.hid hk
 clear hv hs hd hf hm
 show Calls Tryz.prog 61 #[.slice na ns.length ncap, .int .i64 k, .agg #[.string (str r.media), .slice sa r.sels.length scap, .slice da r.decls.length dcap, .int .i64 r.lo, .int .i64 r.hi]] w _
 have hb0 : BLp w (((w.alloc (.cells #[.string (str r.media), .slice sa r.sels.length scap, .slice da r.decls.length dcap, .int .i64 r.lo, .int .i64 r.hi] 42 (0, 0))).alloc (.cells #[.int .i64 0, .int .i64 0, .int .i64 0] 119 (0, 0))).alloc (.cells #[.int .i64 0, .int .i64 0, .int .i64 0] 119 (0, 0))) (w.heap.size + 1) (⟨0, 0, 0⟩, false) := by
  refine ⟨?_, ?_, by omega, (((Kept.refl _ w).alloc _).alloc _).alloc _, Nat.zero_le _, Nat.zero_le _, Nat.zero_le _⟩
  ·have := newIn ((w.alloc (.cells #[.string (str r.media), .slice sa r.sels.length scap, .slice da r.decls.length dcap, .int .i64 r.lo, .int .i64 r.hi] 42 (0, 0))).alloc (.cells #[.int .i64 0, .int .i64 0, .int .i64 0] 119 (0, 0))) (.cells #[.int .i64 0, .int .i64 0, .int .i64 0] 119 (0, 0))
   simpa [WtAt] using this
  ·have := newIn (w.alloc (.cells #[.string (str r.media), .slice sa r.sels.length scap, .slice da r.decls.length dcap, .int .i64 r.lo, .int .i64 r.hi] 42 (0, 0))) (.cells #[.int .i64 0, .int .i64 0, .int .i64 0] 119 (0, 0))
   exact oldIn (by simpa [WtAt] using this) _
 have HB0 := Lib.hid hb0
 clear hb0
 go_enter Tryz.func61, Tryz.ntmps61
 go_wp2_with fail
 obtain ⟨i0, hi0, hz0, hz1, hz2⟩ := info_parts info_sel
 obtain ⟨j0, hj0, hy0, hy1, hy2⟩ := info_parts info_weight
 go_loopw [9, 15] (fun f i wr => ∃ (j : Nat) (acc : PWt × Bool), j ≤ List.length r.sels ∧ i = .int .i64 j ∧ f = .bool acc.2 ∧ Hid (BLp w wr (w.heap.size + 1) acc) ∧ Hid ((r.sels.take j).foldl (bestStep ns k) (⟨0, 0, 0⟩, false) = acc)) (fun _ i _ => List.length r.sels - (intOf i).toNat)
 case atStart => exact ⟨0, (⟨0, 0, 0⟩, false), by omega, rfl, rfl, HB0, Lib.hid rfl⟩
 case round =>
  obtain ⟨j, acc, hj, rfl, rfl, HL, HX0⟩ := hrel
  obtain ⟨wr0, hwr0⟩ : ∃ x, x = wr := ⟨_, rfl⟩
  subst hwr0
  by_cases hlt : j < List.length r.sels
  ·have hx := List.getElem?_eq_getElem hlt
   generalize hgx : r.sels[j] = s at hx
   clear hgx
   obtain ⟨pb, po, pv, rfl, hpc, hpt⟩ := NestAt.at HSL.out hx
   have p0 : wr0.cell? ⟨pb, po + j, none⟩ = some pv := HL.out.kept.cell id (by have := hpc 0 _ rfl; simpa using this)
   obtain ⟨pa, pc, rfl, hpc1, hpc2⟩ := NestAt.form hpt
   unfold maxLen at hpc2
   have HPT := Lib.hid (parts_firm.kept hpt HL.out.kept)
   have hnx : Hid ((r.sels.take (j + 1)).foldl (bestStep ns k) (⟨0, 0, 0⟩, false) = bestStep ns k acc s) := Lib.hid (by
    rw [List.take_add_one, hx, Option.toList_some, List.foldl_append, HX0.out]; rfl)
   have HNT := Lib.hid (HF.out s (List.mem_of_getElem? hx))
   obtain ⟨hit, HIT⟩ : ∃ x, Hid (mMatches ns k s = x) := ⟨_, rfl⟩
   clear hx hpc hpt
   have hmm : Hid ((!s.isEmpty && (inR ns k && mAt ns s.reverse k)) = hit) := Lib.hid (by
    rw [← HIT.out]; unfold mMatches
    cases hin : inR ns k with
    | true => simp
    | false => rw [mAt_out hin]; rfl)
   obtain ⟨⟨xa, xb, xc⟩, done⟩ := acc
   have hno : Hid (hit = false → bestStep ns k (⟨xa, xb, xc⟩, done) s = (⟨xa, xb, xc⟩, done)) := Lib.hid (fun h => by unfold bestStep; rw [HIT.out, h]; rfl)
   by_cases hk0 : k < 0
   ·have hf : hit = false := by rw [← hmm.out]; have : inR ns k = false := by simp [inR]; omega
                                rw [this]; simp
    rw [hno.out hf] at hnx
    clear hf
    go_wp2_with fail
    go_roundw
    case measure => simp [intOf]; omega
    case rel => exact ⟨j + 1, _, by omega, by go_num, by trivial, HL, hnx⟩
   ·by_cases hk1 : (List.length ns : Int) ≤ k
    ·have hf : hit = false := by rw [← hmm.out]; have : inR ns k = false := by simp [inR]; omega
                                 rw [this]; simp
     rw [hno.out hf] at hnx
     clear hf
     go_wp2_with fail
     go_roundw
     case measure => simp [intOf]; omega
     case rel => exact ⟨j + 1, _, by omega, by go_num, by trivial, HL, hnx⟩
    ·by_cases hs0 : List.length s = 0
     ·have hf : hit = false := by rw [← hmm.out, List.length_eq_zero_iff.1 hs0]; rfl
      have gz : ((List.length s : Int) == 0) = true := by simp [hs0]
      rw [hno.out hf] at hnx
      clear hf hs0
      go_wp2_with fail
      go_roundw
      case measure => simp [intOf]; omega
      case rel => exact ⟨j + 1, _, by omega, by go_num, by trivial, HL, hnx⟩
     ·have gz : ((List.length s : Int) == 0) = false := by simp; exact fun h => hs0 (by rw [h]; rfl)
      obtain ⟨kn, HKN⟩ : ∃ n : Nat, Hid (k = (n : Int)) := ⟨k.toNat, Lib.hid (by omega)⟩
      have hkl : kn < ns.length := by have := HKN.out; omega
      have hsl : (List.length s : Int) - 1 = ((List.length s - 1 : Nat) : Int) := by omega
      have HMT := rmeans_any ns hns s (List.length s - 1) (by omega) wr0 _ _ kn hkl (nodes_firm.kept HV.out HL.out.kept) HPT.out
      rw [show List.length s - 1 + 1 = List.length s by omega, List.take_length, ← HKN.out] at HMT
      have hmt : mAt ns s.reverse k = hit := by
       rw [← hmm.out]
       have h1 : s.isEmpty = false := by rw [List.isEmpty_eq_false_iff]; intro h; rw [h] at hs0; exact hs0 rfl
       have h2 : inR ns k = true := by have := HKN.out; simp [inR]; omega
       rw [h1, h2]; simp
      rw [hmt] at HMT
      replace HMT := Lib.hid HMT
      clear hmt hs0
      cases hit with
      | false =>
       rw [hno.out rfl] at hnx
       go_wp2_with (go_at_call 99; refine HMT.out.mono ?_; rintro e w3 ⟨rfl, hk3⟩)
       go_roundw
       case measure => simp [intOf]; omega
       case rel => exact ⟨j + 1, _, by omega, by go_num, by trivial, Lib.hid (HL.out.kept_by hk3), hnx⟩
      | true =>
       obtain ⟨⟨ya, yb, yc⟩, HWY⟩ : ∃ x, Hid (mWeigh s = x) := ⟨_, rfl⟩
       have HYL : Hid (PWt.low ⟨ya, yb, yc⟩ 1048576) := Lib.hid (low_mono (by rw [← HWY.out]; exact weigh_low s) HNT.out)
       have hn2 : Hid (bestStep ns k (⟨xa, xb, xc⟩, done) s = if (!done || wLt ⟨xa, xb, xc⟩ ⟨ya, yb, yc⟩) = true then (⟨ya, yb, yc⟩, true) else (⟨xa, xb, xc⟩, done)) := Lib.hid (by unfold bestStep; rw [HIT.out, HWY.out]; simp)
       rw [hn2.out] at hnx
       clear hn2
       have HW : Hid (∀ (wz : World), Kept (fun _ => False) wr0 wz → Calls Tryz.prog 100 #[.slice pa s.length pc] wz fun e w' => e = .returned (.agg #[.int .i64 (ya : Int), .int .i64 (yb : Int), .int .i64 (yc : Int)]) ∧ Kept (fun _ => False) wz w') := Lib.hid fun wz hz => by
        have := rweigh_any s wz _ (parts_firm.kept HPT.out hz) HNT.out
        rw [HWY.out] at this
        exact this
       go_upto_region 7 with (go_at_call 99; refine HMT.out.mono ?_; rintro e w3 ⟨rfl, hk3⟩)
       have HK3 := Lib.hid hk3
       have HL3 := Lib.hid (HL.out.kept_by hk3)
       clear hk3 p0
       cases done with
       | false =>
        have hn2 : (if (!false || wLt ⟨xa, xb, xc⟩ ⟨ya, yb, yc⟩) = true then ((⟨ya, yb, yc⟩ : PWt), true) else ((⟨xa, xb, xc⟩ : PWt), false)) = (⟨ya, yb, yc⟩, true) := rfl
        rw [hn2] at hnx
        clear hn2
        go_wp2_with fail
        go_quiet (fail)
        go_upto_region 8 with fail
        obtain ⟨w4, HW4⟩ : ∃ z, Hid (w3.drewN nq = z) := ⟨_, rfl⟩
        rw [HW4.out]
        have k34 : Kept (fun _ => False) w3 w4 := by rw [← HW4.out]; exact (Kept.refl _ w3).drewN nq
        have HL4 := Lib.hid (HL3.out.kept_by k34)
        go_wp2_with fail
        refine (HW.out w4 (HK3.out.trans k34)).mono ?_
        rintro e w5 ⟨rfl, hk5⟩
        have HL5 := Lib.hid (HL4.out.kept_by hk5)
        have fz := freeIn HL5.out.at_
        have f0 := fz 0
        have f1 := fz 1
        have f2 := fz 2
        obtain ⟨z1, z2, z3⟩ := HL5.out.at_.ints
        clear fz
        go_wp2_with fail
        go_roundw
        case measure => simp [intOf]; omega
        case rel => exact ⟨j + 1, _, by omega, by go_num, by trivial, Lib.hid (HL5.out.put ya yb yc HYL.out true), hnx⟩
       | true =>
        obtain ⟨lt, HLT⟩ : ∃ b, Hid (wLt ⟨xa, xb, xc⟩ ⟨ya, yb, yc⟩ = b) := ⟨_, rfl⟩
        have HLS : Hid (∀ (wz : World), Calls Tryz.prog 91 #[.agg #[.int .i64 (xa : Int), .int .i64 (xb : Int), .int .i64 (xc : Int)], .agg #[.int .i64 (ya : Int), .int .i64 (yb : Int), .int .i64 (yc : Int)]] wz fun e w' => e = .returned (.bool lt) ∧ Kept (fun _ => False) wz w') := Lib.hid fun wz => by
         have := less_any wz ⟨xa, xb, xc⟩ ⟨ya, yb, yc⟩ HL.out.low HYL.out
         rw [HLT.out] at this
         exact this
        obtain ⟨x1, x2, x3⟩ := HL3.out.at_.ints
        go_region_held3 (fun w' => w'.cell? ⟨w.heap.size + 1 + 1, 0, none⟩ = some (.int .i64 (xa : Int)) ∧ w'.cell? ⟨w.heap.size + 1 + 1, 1, none⟩ = some (.int .i64 (xb : Int)) ∧ w'.cell? ⟨w.heap.size + 1 + 1, 2, none⟩ = some (.int .i64 (xc : Int))) (first | exact ⟨hk6.cell id x1, hk6.cell id x2, hk6.cell id x3⟩ | exact ⟨hk5.cell id x1, hk5.cell id x2, hk5.cell id x3⟩ | go_keep)
         ((first
          | (go_at_call 100; refine (HW.out _ (by first | exact HK3.out.drew | exact HK3.out)).mono ?_; rintro e w5 ⟨rfl, hk5⟩; have hk5 : Kept (fun _ => False) w3 w5 := (Kept.refl _ w3).drew.trans hk5)
          | (go_at_call 91; refine (HLS.out _).mono ?_; rintro e w6 ⟨rfl, hk6⟩; have hk6 : Kept (fun _ => False) w3 w6 := hk5.trans hk6)))
        cases lt with
        | true =>
         have hn2 : (if (!true || wLt ⟨xa, xb, xc⟩ ⟨ya, yb, yc⟩) = true then ((⟨ya, yb, yc⟩ : PWt), true) else ((⟨xa, xb, xc⟩ : PWt), true)) = (⟨ya, yb, yc⟩, true) := by rw [HLT.out]; rfl
         rw [hn2] at hnx
         clear hn2
         go_upto_region 8 with fail
         have HL6 := Lib.hid (HL3.out.kept_by hk6)
         go_wp2_with fail
         refine (HW.out w6 (HK3.out.trans hk6)).mono ?_
         rintro e w7 ⟨rfl, hk7⟩
         have HL7 := Lib.hid (HL6.out.kept_by hk7)
         have fz := freeIn HL7.out.at_
         have f0 := fz 0
         have f1 := fz 1
         have f2 := fz 2
         obtain ⟨z1, z2, z3⟩ := HL7.out.at_.ints
         clear fz
         go_wp2_with fail
         go_roundw
         case measure => simp [intOf]; omega
         case rel => exact ⟨j + 1, _, by omega, by go_num, by trivial, Lib.hid (HL7.out.put ya yb yc HYL.out true), hnx⟩
        | false =>
         have hn2 : (if (!true || wLt ⟨xa, xb, xc⟩ ⟨ya, yb, yc⟩) = true then ((⟨ya, yb, yc⟩ : PWt), true) else ((⟨xa, xb, xc⟩ : PWt), true)) = (⟨xa, xb, xc⟩, true) := by rw [HLT.out]; rfl
         rw [hn2] at hnx
         clear hn2
         go_wp2_with fail
         go_roundw
         case measure => simp [intOf]; omega
         case rel => exact ⟨j + 1, _, by omega, by go_num, by trivial, Lib.hid (HL3.out.kept_by hk6), hnx⟩
  ·obtain ⟨⟨xa, xb, xc⟩, done⟩ := acc
   obtain rfl : j = List.length r.sels := by omega
   have HE : Hid (mBest ns k r.sels = (⟨xa, xb, xc⟩, done)) := Lib.hid (by unfold mBest; rw [← HX0.out, List.take_length])
   obtain ⟨x1, x2, x3⟩ := HL.out.at_.ints
   have hres := HL.out.res
   have fz := freeIn hres
   have f0 := fz 0
   have f1 := fz 1
   have f2 := fz 2
   obtain ⟨q0, q1, q2⟩ := hres.ints
   simp only at x1 x2 x3 q0 q1 q2
   clear fz
   go_wp2_with fail
   have hz : (((wr0.setCell ⟨w.heap.size + 1, 0, none⟩ (.int .i64 (xa : Int))).setCell ⟨w.heap.size + 1, 1, none⟩ (.int .i64 (xb : Int))).setCell ⟨w.heap.size + 1, 2, none⟩ (.int .i64 (xc : Int))).heap[w.heap.size + 1]? = some (.cells #[.int .i64 (xa : Int), .int .i64 (xb : Int), .int .i64 (xc : Int)] 119 (0, 0)) := by
    have := setIn (setIn (setIn hres 0 (.int .i64 (xa : Int))) 1 (.int .i64 (xb : Int))) 2 (.int .i64 (xc : Int))
    simpa using this
   have kz : Kept (fun _ => False) w (((wr0.setCell ⟨w.heap.size + 1, 0, none⟩ (.int .i64 (xa : Int))).setCell ⟨w.heap.size + 1, 1, none⟩ (.int .i64 (xb : Int))).setCell ⟨w.heap.size + 1, 2, none⟩ (.int .i64 (xc : Int))) := ((HL.out.kept.setCell (p := ⟨w.heap.size + 1, 0, none⟩) (.inr (by show w.heap.size ≤ w.heap.size + 1; omega)) _).setCell (p := ⟨w.heap.size + 1, 1, none⟩) (.inr (by show w.heap.size ≤ w.heap.size + 1; omega)) _).setCell (p := ⟨w.heap.size + 1, 2, none⟩) (.inr (by show w.heap.size ≤ w.heap.size + 1; omega)) _
   generalize (((wr0.setCell ⟨w.heap.size + 1, 0, none⟩ (.int .i64 (xa : Int))).setCell ⟨w.heap.size + 1, 1, none⟩ (.int .i64 (xb : Int))).setCell ⟨w.heap.size + 1, 2, none⟩ (.int .i64 (xc : Int))) = wz at *
   have z0 : wz.cell? ⟨w.heap.size + 1, 0, none⟩ = some (.int .i64 (xa : Int)) := cellIn hz 0 rfl
   have z1 : wz.cell? ⟨w.heap.size + 1, 1, none⟩ = some (.int .i64 (xb : Int)) := cellIn hz 1 rfl
   have z2 : wz.cell? ⟨w.heap.size + 1, 2, none⟩ = some (.int .i64 (xc : Int)) := cellIn hz 2 rfl
   refine bodyPost_ret (v := .tuple #[wtVal ⟨xa, xb, xc⟩, .bool done]) (by simp [results, Tryz.results61, go_sem, z0, z1, z2, wtVal]) rfl ?_
   rw [HE.out]
   exact ⟨rfl, kz⟩
theorem splitB_done {s : B} {a : Nat} (h : ∀ c ∈ s.drop a, c ≠ 32) : splitB (s.drop a) = [s.drop a] := splitB_last h
theorem splitB_next {s : B} {a i : Nat} (ha : a ≤ i) (hi : i < s.length) (h : ∀ j (hj : j < s.length), a ≤ j → j < i → s[j] ≠ 32) (hb : s[i] = 32) : splitB (s.drop a) = (s.drop a).take (i - a) :: splitB (s.drop (i + 1)) := by
 have e : s.drop a = (s.drop a).take (i - a) ++ (32 :: s.drop (i + 1)) := by
  have h1 : (s.drop a).drop (i - a) = 32 :: s.drop (i + 1) := by
   rw [List.drop_drop, show a + (i - a) = i from by omega, List.drop_eq_getElem_cons hi, hb]
  rw [← h1, List.take_append_drop]
 conv => lhs; rw [e]
 refine splitB_word (fun c hc => ?_) _
 obtain ⟨j, hj, rfl⟩ := List.mem_iff_getElem.1 hc
 simp only [List.length_take, List.length_drop] at hj
 simp only [List.getElem_take, List.getElem_drop]
 exact h (a + j) (by omega) (by omega) (by omega)
structure WLoop (w wr : World) (base : Nat) (s : B) (l : Value) (ws : List B) (a i : Nat) : Prop where
 own : wr.ownsRow base 9 1 l ws.length (ws.map strCells).flatten
 kept : Kept (fun _ => False) w wr
 le : a ≤ i
 words : splitB s = ws ++ splitB (s.drop a)
 plain : ∀ j (hj : j < s.length), a ≤ j → j < i → s[j] ≠ 32
 few : ws.length ≤ i
theorem WLoop.form {w wr : World} {base : Nat} {s : B} {l : Value} {ws : List B} {a i : Nat} (h : WLoop w wr base s l ws a i) : ∃ vo vc, l = .slice vo ws.length vc := by
 rcases h.own.2 with ⟨h, hn⟩ | ⟨g, cap, cur, h, _⟩
 ·exact ⟨none, 0, by rw [h, hn]⟩
 ·exact ⟨_, cap, h⟩
theorem info_str2 : (Tryz.prog.info? 9).map (fun i => (i.zero, i.size, i.bytes)) = some (some (.string ⟨#[]⟩), 1, 16) := by kernel_rfl
theorem str_rows {ws : List B} : ∀ r ∈ ws.map strCells, r.length = 1 := by
 intro r hr
 obtain ⟨a, _, rfl⟩ := List.mem_map.1 hr
 rfl
set_option maxRecDepth 100000 in
set_option maxHeartbeats 1600000 in
theorem words_any (s : B) (w : World) (hl : s.length ≤ 1048576) :
  Calls Tryz.prog 82 #[.string (str s)] w fun e w' => ∃ v, e = .returned v ∧ Below w.heap.size w w' ∧ RowsAt w' 1 v ((splitB s).map strCells) ∧ ∀ k, v.ownBlock = some k → w.heap.size ≤ k ∧ k < w'.heap.size := by
 obtain ⟨base, HBASE⟩ : ∃ base, Hid (w.heap.size = base) := ⟨_, rfl⟩
 obtain ⟨R, HR⟩ : ∃ R, Hid (splitB s = R) := ⟨_, rfl⟩
 rw [HR.out]
 obtain ⟨i0, hi0, hz0, hz1, hz2⟩ := info_parts info_str2
 go_enter Tryz.func82, Tryz.ntmps82
 go_upto_block 0 with fail
 go_cut [3, 4] (fun l x wx => ∃ (a : Nat) (ws : List B), x = .int .i64 a ∧ a ≤ s.length ∧ WLoop w wx base s l ws a s.length)
 case first =>
  go_wp2_with fail
  go_loopw [3, 4, 8] (fun l x i wr => ∃ (a k : Nat) (ws : List B), k ≤ s.length ∧ x = .int .i64 a ∧ i = .int .i64 k ∧ WLoop w wr base s l ws a k) (fun _ _ i _ => s.length - (intOf i).toNat)
  case atStart => exact ⟨0, 0, [], by omega, rfl, rfl, World.ownsRow_nil _ _ _ _, Kept.refl _ _, by omega, by simp, fun j _ _ h => by omega, by simp⟩
  case round =>
   obtain ⟨a, i, ws, hi, rfl, rfl, hL⟩ := hrel
   obtain ⟨lo, lc, rfl⟩ := hL.form
   have HL := Lib.hid hL
   have hle := hL.le
   have hfew := hL.few
   have how := hL.own
   clear hL
   by_cases hlt : i < s.length
   ·by_cases hc : s[i] = 32
    ·have g : (((s[i]'hlt).toNat : Int) == 32) = true := by rw [hc]; rfl
     have HC := Lib.hid hc
     have hsz : base ≤ wr.heap.size := by have := HL.out.kept.size; have := HBASE.out; omega
     clear hc
     go_wp2_with (at_builtin; refine wpList_append_lies _ rfl _ _ _ rfl base 9 i0 _ 1 16 Tryz.underlying58 hi0 hz0 hz1 hz2 rfl (by omega) _ ws.length _ (by rfl) (how.alloc _) ⟨wr.heap.size, 0, none⟩ 1 1 (strCells ((s.drop a).take (i - a))) (by rfl) (by rfl) (World.news_of_block (cs := (strCells ((s.drop a).take (i - a))).toArray) (t := 9) (fr := (0, 0)) (heap_alloc_new wr _)) (by simp [strCells, Value.oneCell']) (by omega) (by unfold maxLen; omega) (by omega) (by simp; omega) (wr.heap.size + 1) (by simp) ?_; intro gg cap w4 hown4 hgrow4 hat4 hlt4)
     go_roundw
     case measure => simp [intOf]; omega
     case rel =>
      refine ⟨i + 1, i + 1, ws ++ [(s.drop a).take (i - a)], by omega, by go_num, by go_num, ?_, (HL.out.kept.alloc _).grown hgrow4 (fun k hk => .inr (by have := (HL.out.own.lt k hk).1; have := HBASE.out; omega)), by omega, ?_, fun j _ h1 h2 => by omega, by simp; omega⟩
      ·rw [List.map_append, List.flatten_append, List.map_singleton, List.flatten_singleton, List.length_append]; exact hown4
      ·rw [HL.out.words, splitB_next HL.out.le hlt HL.out.plain HC.out]; simp
    ·have g : (((s[i]'hlt).toNat : Int) == 32) = false := by
      simp only [beq_eq_false_iff_ne, ne_eq]
      intro h
      exact hc (UInt8.toNat_inj.1 (by have e32 : (32 : UInt8).toNat = 32 := rfl; omega))
     have HC := Lib.hid hc
     clear hc
     go_wp2_with fail
     go_roundw
     case measure => simp [intOf]; omega
     case rel =>
      refine ⟨a, i + 1, ws, by omega, rfl, by go_num, HL.out.own, HL.out.kept, by omega, HL.out.words, fun j hj h1 h2 => ?_, by omega⟩
      by_cases hji : j = i
      ·subst hji; exact HC.out
      ·exact HL.out.plain j hj h1 (by omega)
   ·obtain rfl : i = s.length := by omega
    go_wp2_with fail
    go_meet
    case rel => exact ⟨a, ws, rfl, hle, HL.out⟩
 case rest =>
  obtain ⟨a, ws, rfl, hal, hL⟩ := hcut
  obtain ⟨lo, lc, rfl⟩ := hL.form
  have HL := Lib.hid hL
  have hfew := hL.few
  have how := hL.own
  have hsz : base ≤ wc.heap.size := by have := hL.kept.size; have := HBASE.out; omega
  clear hL
  go_wp2_with (at_builtin; refine wpList_append_lies _ rfl _ _ _ rfl base 9 i0 _ 1 16 Tryz.underlying58 hi0 hz0 hz1 hz2 rfl (by omega) _ ws.length _ (by rfl) (how.alloc _) ⟨wc.heap.size, 0, none⟩ 1 1 (strCells (s.drop a)) (by rfl) (by rfl) (World.news_of_block (cs := (strCells (s.drop a)).toArray) (t := 9) (fr := (0, 0)) (heap_alloc_new wc _)) (by simp [strCells, Value.oneCell']) (by omega) (by unfold maxLen; omega) (by omega) (by simp; omega) (wc.heap.size + 1) (by simp) ?_; intro gg cap w4 hown4 hgrow4 hat4 hlt4)
  go_ret
  have hw : R = ws ++ [s.drop a] := by
   rw [← HR.out, HL.out.words, splitB_done]
   intro c hc
   obtain ⟨j, hj, rfl⟩ := List.mem_iff_getElem.1 hc
   simp only [List.length_drop] at hj
   simp only [List.getElem_drop]
   exact HL.out.plain (a + j) (by omega) (by omega) (by omega)
  have K := (HL.out.kept.alloc (.cells #[.string (str (s.drop a))] 9 (0, 0))).grown hgrow4 (fun k hk => .inr (by have := (HL.out.own.lt k hk).1; have := HBASE.out; omega))
  have e : ((ws.map strCells).flatten ++ strCells (s.drop a)) = (R.map strCells).flatten := by rw [hw]; simp
  rw [e] at hown4
  refine ⟨_, rfl, K.below, rowsAt_of_owns str_rows (by rw [hw]; simp) hown4, fun k hk => ⟨by have := (hown4.lt k hk).1; have := HBASE.out; omega, (hown4.lt k hk).2⟩⟩
end Go.Proofs.YtplbdlgmjehckacGreatDoor

