/-
  inkref3.Weigh.
-/
import Derived.Test.YtplbdlgmjehckaaDoorMapFn
import Derived.Test.YtplbdlgmjehckaaDoorMtWeigh
namespace Go.Proofs.YtplbdlgmjehckaaDoor
open Go.RowKit
set_option linter.unusedVariables false
set_option linter.unusedSimpArgs false

def assocI (l : List (Int × Value)) : Value → Option Value
  | .int .i64 k => (l.find? fun x => x.1 == k).map (·.2)
  | _ => none
theorem assoc_push {l : List (Int × Value)} {k : Int} {v : Value} (h : ∀ x ∈ l, x.1 ≠ k) : assocI (l ++ [(k, v)]) (.int .i64 k) = some v := by
  show (((l ++ [(k, v)]).find? fun x => x.1 == k).map (·.2)) = some v
  rw [List.find?_append]
  have : l.find? (fun x => x.1 == k) = none := by
    rw [List.find?_eq_none]
    intro x hx
    simpa using h x hx
  rw [this]
  simp
theorem assoc_other {l : List (Int × Value)} {k : Int} {v : Value} : ∀ y, MapKept.IsKey (.int .i64) y → y ≠ .int .i64 k → assocI (l ++ [(k, v)]) y = assocI l y := by
  intro y hy hne
  cases y with
  | int q j =>
    have : q = .i64 := hy
    subst this
    have hj : ¬ k = j := fun e => hne (by rw [e])
    show (((l ++ [(k, v)]).find? fun x => x.1 == j).map (·.2)) = (l.find? fun x => x.1 == j).map (·.2)
    rw [List.find?_append]
    have : ([(k, v)] : List (Int × Value)).find? (fun x => x.1 == j) = none := by simp [hj]
    rw [this]
    simp
  | _ => exact absurd hy (by simp [MapKept.IsKey])
theorem assoc_none : (fun _ => none : Value → Option Value) = assocI [] := by
  funext y
  cases y with
  | int q j => cases q <;> rfl
  | _ => rfl
section
variable {P : Program} {mty kt et : TypeId}
theorem MapFn.push {w : World} {b : Nat} {l : List (Int × Value)} (h : MapFn (.int .i64) w b (assocI l)) (hm : P.underlying mty = some (.map kt et)) (hd : P.underlying kt = some (.int .i64)) (k : Int) (v : Value) (hk : ∀ x ∈ l, x.1 ≠ k) :
    ∃ w', (Instr.mapUpdate mty (.map (some b)) (.int .i64 k) v).run P w = .ok () w' ∧ MapFn (.int .i64) w' b (assocI (l ++ [(k, v)])) ∧ Kept (· = b) w w' := by
  obtain ⟨w', h1, h2, h3, _⟩ := h.update hm hd (k := .int .i64 k) (v := v) (by trivial) (assoc_push hk) assoc_other
  exact ⟨w', h1, h2, h3⟩
end

def wtList : List (Int × Value) := [(3, .int .i64 0), (2, .int .i64 1), (4, .int .i64 1), (5, .int .i64 1), (6, .int .i64 1), (1, .int .i64 2)]
set_option maxRecDepth 20000 in
theorem wt_made (w : World) : ∃ u1 u2 u3 u4 u5 u6,
    (Instr.mapUpdate 83 (.map (some w.heap.size)) (.int .i64 3) (.int .i64 0)).run Tryd.prog (w.alloc (.map #[] 0)) = .ok () u1 ∧
    (Instr.mapUpdate 83 (.map (some w.heap.size)) (.int .i64 2) (.int .i64 1)).run Tryd.prog u1 = .ok () u2 ∧
    (Instr.mapUpdate 83 (.map (some w.heap.size)) (.int .i64 4) (.int .i64 1)).run Tryd.prog u2 = .ok () u3 ∧
    (Instr.mapUpdate 83 (.map (some w.heap.size)) (.int .i64 5) (.int .i64 1)).run Tryd.prog u3 = .ok () u4 ∧
    (Instr.mapUpdate 83 (.map (some w.heap.size)) (.int .i64 6) (.int .i64 1)).run Tryd.prog u4 = .ok () u5 ∧
    (Instr.mapUpdate 83 (.map (some w.heap.size)) (.int .i64 1) (.int .i64 2)).run Tryd.prog u5 = .ok () u6 ∧
    MapFn (.int .i64) u6 w.heap.size (assocI wtList) ∧ Kept (fun _ => False) w u6 := by
  have M0 : MapFn (.int .i64) (w.alloc (.map #[] 0)) w.heap.size (assocI []) := by rw [← assoc_none]; exact MapFn.made _ w
  obtain ⟨u1, r1, M1, k1⟩ := M0.push (P := Tryd.prog) Tryd.underlying83 Tryd.underlying3 3 (.int .i64 0) (by simp)
  obtain ⟨u2, r2, M2, k2⟩ := M1.push (P := Tryd.prog) Tryd.underlying83 Tryd.underlying3 2 (.int .i64 1) (by simp)
  obtain ⟨u3, r3, M3, k3⟩ := M2.push (P := Tryd.prog) Tryd.underlying83 Tryd.underlying3 4 (.int .i64 1) (by simp)
  obtain ⟨u4, r4, M4, k4⟩ := M3.push (P := Tryd.prog) Tryd.underlying83 Tryd.underlying3 5 (.int .i64 1) (by simp)
  obtain ⟨u5, r5, M5, k5⟩ := M4.push (P := Tryd.prog) Tryd.underlying83 Tryd.underlying3 6 (.int .i64 1) (by simp)
  obtain ⟨u6, r6, M6, k6⟩ := M5.push (P := Tryd.prog) Tryd.underlying83 Tryd.underlying3 1 (.int .i64 2) (by simp)
  refine ⟨u1, u2, u3, u4, u5, u6, r1, r2, r3, r4, r5, r6, M6, ?_⟩
  exact ((Kept.refl _ w).alloc _).trans' (((((k1.trans k2).trans k3).trans k4).trans k5).trans k6) (fun i hi (h : i = w.heap.size) => by omega)
theorem wt_zero (w : World) : (zeroValue 3).run Tryd.prog w = .ok (.int .i64 0) w := by kernel_rfl
set_option maxRecDepth 20000 in
theorem wt_look {u : World} {b : Nat} (h : MapFn (.int .i64) u b (assocI wtList)) (k : Int) : (Instr.lookup 83 (.map (some b)) (.int .i64 k) true).run Tryd.prog u =
    .ok (.tuple #[if k = 3 then .int .i64 0 else if k = 1 then .int .i64 2 else if k = 2 ∨ k = 4 ∨ k = 5 ∨ k = 6 then .int .i64 1 else .int .i64 0, .bool (decide (k = 3 ∨ k = 1 ∨ k = 2 ∨ k = 4 ∨ k = 5 ∨ k = 6))]) u := by
  by_cases h3 : k = 3
  · subst h3; exact h.hit (P := Tryd.prog) Tryd.underlying83 Tryd.underlying3 (by trivial) rfl true
  by_cases h1 : k = 1
  · subst h1; exact h.hit (P := Tryd.prog) Tryd.underlying83 Tryd.underlying3 (by trivial) rfl true
  by_cases h2 : k = 2
  · subst h2; exact h.hit (P := Tryd.prog) Tryd.underlying83 Tryd.underlying3 (by trivial) rfl true
  by_cases h4 : k = 4
  · subst h4; exact h.hit (P := Tryd.prog) Tryd.underlying83 Tryd.underlying3 (by trivial) rfl true
  by_cases h5 : k = 5
  · subst h5; exact h.hit (P := Tryd.prog) Tryd.underlying83 Tryd.underlying3 (by trivial) rfl true
  by_cases h6 : k = 6
  · subst h6; exact h.hit (P := Tryd.prog) Tryd.underlying83 Tryd.underlying3 (by trivial) rfl true
  have hn : assocI wtList (.int .i64 k) = none := by
    show ((wtList.find? fun x => x.1 == k).map (·.2)) = none
    have : wtList.find? (fun x => x.1 == k) = none := by
      rw [List.find?_eq_none]
      intro x hx
      simp only [wtList, List.mem_cons, List.not_mem_nil, or_false] at hx
      rcases hx with rfl | rfl | rfl | rfl | rfl | rfl <;> simp <;> omega
    rw [this]; rfl
  have := h.miss (P := Tryd.prog) (mty := 83) Tryd.underlying83 Tryd.underlying3 (k := .int .i64 k) (by trivial) hn (wt_zero u) true
  rw [this]
  simp [h1, h2, h3, h4, h5, h6]
theorem WLp.by_kept {w wr wx : World} {x : PWt} {n : Nat} (h : WLp w wr x n) (hk : Kept (fun _ => False) wr wx) : WLp w wx x n := ⟨hk.heap id h.at_, hk.heap id h.res, h.kept.trans hk, h.low⟩

set_option maxRecDepth 100000 in
set_option maxHeartbeats 3200000 in
theorem rweigh_any (s : PSel) (w : World) (sv : Value) (hp : PartsAt w sv s) (hn : nTests s ≤ 1048576) :
    Calls Tryd.prog 24 #[sv] w fun e w' => e = .returned (wtVal (mWeigh s)) ∧ Kept (fun _ => False) w w' := by
  obtain ⟨pa, pcap, rfl, hpc1, hpc2⟩ := NestAt.form hp
  unfold maxLen at hpc2
  have HP := Lib.hid hp
  have HN := Lib.hid hn
  clear hp hn
  have hw0 : WLp w ((w.alloc (.cells #[.int .i64 0, .int .i64 0, .int .i64 0] 47 (0, 0))).alloc (.cells #[.int .i64 0, .int .i64 0, .int .i64 0] 47 (0, 0))) ⟨0, 0, 0⟩ 0 := by
    refine ⟨?_, oldIn (newIn w _) _, ((Kept.refl _ w).alloc _).alloc _, Nat.le_refl _, Nat.le_refl _, Nat.le_refl _⟩
    have := newIn (w.alloc (.cells #[.int .i64 0, .int .i64 0, .int .i64 0] 47 (0, 0))) (.cells #[.int .i64 0, .int .i64 0, .int .i64 0] 47 (0, 0))
    simpa [WtAt] using this
  have HW0 := Lib.hid hw0
  clear hw0
  go_enter Tryd.func24, Tryd.ntmps24
  go_wp2_with fail
  go_loopw [12] (fun i wr => ∃ (k : Nat) (x : PWt), k ≤ List.length s ∧ i = .int .i64 k ∧ Hid (WLp w wr x (nTests (s.take k))) ∧ Hid ((s.take k).foldl wPart ⟨0, 0, 0⟩ = x)) (fun i _ => List.length s - (intOf i).toNat)
  case atStart => exact ⟨0, ⟨0, 0, 0⟩, by omega, rfl, HW0, Lib.hid rfl⟩
  case round =>
    obtain ⟨i, x0, hi, rfl, HL, HX0⟩ := hrel
    obtain ⟨wr0, hwr0⟩ : ∃ x, x = wr := ⟨_, rfl⟩
    subst hwr0
    by_cases hlt : i < List.length s
    · have hx := List.getElem?_eq_getElem hlt
      generalize hgx : s[i] = p at hx
      clear hgx
      obtain ⟨pb, po, tv, rfl, hpc, hpt⟩ := NestAt.at HP.out hx
      have p0 : wr0.cell? ⟨pb, po + i * 2, none⟩ = some (.int .i64 p.join) := HL.out.kept.cell id (hpc 0 _ rfl)
      have p1 : wr0.cell? ⟨pb, po + i * 2 + 1, none⟩ = some tv := HL.out.kept.cell id (hpc 1 _ rfl)
      obtain ⟨ta, tc, rfl, htc1, htc2⟩ := TestsAt.form hpt
      unfold maxLen at htc2
      have hnt := nTests_take s i hx
      have hnl := nTests_le s (i + 1)
      have HNT := Lib.hid hnt
      have hbase : Hid (nTests (s.take i) + p.tests.length ≤ 1048576) := Lib.hid (by have := HN.out; omega)
      have HX := Lib.hid hx
      have HPT := Lib.hid hpt
      clear hx hpc hpt hnt hnl
      go_upto_region 5 with fail
      obtain ⟨wa, HWA⟩ : ∃ x', Hid (wr0.alloc (.cells #[.int .i64 p.join, .slice ta p.tests.length tc] 45 (0, 0)) = x') := ⟨_, rfl⟩
      have c1 : wa.cell? ⟨wr0.heap.size, 1, none⟩ = some (.slice ta p.tests.length tc) := by rw [← HWA.out]; exact cellIn (newIn wr0 _) 1 rfl
      have HLA : Hid (WLp w wa x0 (nTests (s.take i))) := Lib.hid (by rw [← HWA.out]; exact HL.out.alloc _)
      clear p0 p1
      rw [HWA.out]
      go_wp2_with fail
      go_loopw [19] (fun j wx => ∃ (l : Nat) (x : PWt), l ≤ p.tests.length ∧ j = .int .i64 l ∧ Hid (WLp w wx x (nTests (s.take i) + l)) ∧ Hid ((p.tests.take l).foldl wTest x0 = x)) (fun j _ => p.tests.length - (intOf j).toNat)
      case atStart => exact ⟨0, x0, by omega, rfl, HLA, Lib.hid rfl⟩
      case round =>
        obtain ⟨l, x, hl, rfl, HM, HXJ⟩ := hrel
        by_cases hlt2 : l < p.tests.length
        · have hy := List.getElem?_eq_getElem hlt2
          generalize hgy : p.tests[l] = t at hy
          clear hgy
          obtain ⟨tb, to_, rfl, t0, t1, t2⟩ := TestsAt.at (tests_firm.kept HPT.out HM.out.kept) hy
          have HY := Lib.hid hy
          clear hy
          go_upto_region 8 with fail
          obtain ⟨wb, HWB⟩ : ∃ x', Hid (wr.alloc (.cells #[.int .i64 t.kind, .string (str t.name), .string (str t.val)] 42 (0, 0)) = x') := ⟨_, rfl⟩
          have d0 : wb.cell? ⟨wr.heap.size, 0, none⟩ = some (.int .i64 t.kind) := by rw [← HWB.out]; exact cellIn (newIn wr _) 0 rfl
          have HMB : Hid (WLp w wb x (nTests (s.take i) + l)) := Lib.hid (by rw [← HWB.out]; exact HM.out.alloc _)
          rw [HWB.out]
          clear t0 t1 t2
          obtain ⟨u1, u2, u3, u4, u5, u6, r1, r2, r3, r4, r5, r6, M6, k6⟩ := wt_made wb
          have e0 := run_made (P := Tryd.prog) wb 83
          have d6 := k6.cell id d0
          have HL6 := Lib.hid (HMB.out.by_kept k6)
          have hnx : Hid ((p.tests.take (l + 1)).foldl wTest x0 = wTest x t) := Lib.hid (by
            rw [List.take_add_one, HY.out, Option.toList_some, List.foldl_append, HXJ.out]; rfl)
          have hlw := Lib.hid (wTest_low HL6.out.low t)
          obtain ⟨x1, x2, x3⟩ := HL6.out.cell
          have hlow := HL6.out.low
          obtain ⟨l1, l2, l3⟩ := hlow
          have hb1 := hbase.out
          have fz := freeIn HL6.out.at_
          have f0 := fz 0
          have f1 := fz 1
          have f2 := fz 2
          obtain ⟨xa, xb, xc⟩ := x
          simp only at x1 x2 x3 l1 l2 l3
          have hlk := wt_look M6 t.kind
          clear fz k6 M6
          by_cases k3 : t.kind = 3
          · have hy : Hid (wTest ⟨xa, xb, xc⟩ t = ⟨xa + 1, xb, xc⟩) := Lib.hid (by simp [wTest, k3])
            have hlk2 : (Instr.lookup 83 (.map (some wb.heap.size)) (.int .i64 t.kind) true).run Tryd.prog u6 = .ok (.tuple #[.int .i64 0, .bool true]) u6 := by rw [hlk]; simp [k3]
            rw [hy.out] at hnx hlw
            clear k3 hlk
            go_wp2_with fail
            go_roundw
            case measure => simp [intOf]; omega
            case rel => exact ⟨l + 1, _, by omega, by go_num, Lib.hid (HL6.out.put 0 _ (by simp) hlw.out), hnx⟩
          · by_cases k1 : t.kind = 1
            · have hy : Hid (wTest ⟨xa, xb, xc⟩ t = ⟨xa, xb, xc + 1⟩) := Lib.hid (by simp [wTest, k1])
              have hlk2 : (Instr.lookup 83 (.map (some wb.heap.size)) (.int .i64 t.kind) true).run Tryd.prog u6 = .ok (.tuple #[.int .i64 2, .bool true]) u6 := by rw [hlk]; simp [k1]
              rw [hy.out] at hnx hlw
              clear k3 k1 hlk
              go_wp2_with fail
              go_roundw
              case measure => simp [intOf]; omega
              case rel => exact ⟨l + 1, _, by omega, by go_num, Lib.hid (HL6.out.put 2 _ (by simp) hlw.out), hnx⟩
            · by_cases k2 : t.kind = 2 ∨ t.kind = 4 ∨ t.kind = 5 ∨ t.kind = 6
              · have hy : Hid (wTest ⟨xa, xb, xc⟩ t = ⟨xa, xb + 1, xc⟩) := Lib.hid (by unfold wTest; rw [if_neg k3, if_neg k1, if_pos k2])
                have hlk2 : (Instr.lookup 83 (.map (some wb.heap.size)) (.int .i64 t.kind) true).run Tryd.prog u6 = .ok (.tuple #[.int .i64 1, .bool true]) u6 := by rw [hlk, if_neg k3, if_neg k1, if_pos k2]; simp [k2]
                rw [hy.out] at hnx hlw
                clear k3 k1 k2 hlk
                go_wp2_with fail
                go_roundw
                case measure => simp [intOf]; omega
                case rel => exact ⟨l + 1, _, by omega, by go_num, Lib.hid (HL6.out.put 1 _ (by simp) hlw.out), hnx⟩
              · have hy : Hid (wTest ⟨xa, xb, xc⟩ t = ⟨xa, xb, xc⟩) := Lib.hid (by unfold wTest; rw [if_neg k3, if_neg k1, if_neg k2])
                have hlk2 : (Instr.lookup 83 (.map (some wb.heap.size)) (.int .i64 t.kind) true).run Tryd.prog u6 = .ok (.tuple #[.int .i64 0, .bool false]) u6 := by rw [hlk, if_neg k3, if_neg k1, if_neg k2]; simp [k1, k3, k2]
                rw [hy.out] at hnx hlw
                clear k3 k1 k2 hlk
                go_wp2_with fail
                go_roundw
                case measure => simp [intOf]; omega
                case rel => exact ⟨l + 1, _, by omega, by go_num, Lib.hid ⟨HL6.out.at_, HL6.out.res, HL6.out.kept, hlw.out⟩, hnx⟩
        · obtain rfl : l = p.tests.length := by omega
          have hnx : Hid ((s.take (i + 1)).foldl wPart ⟨0, 0, 0⟩ = x) := Lib.hid (by
            rw [List.take_add_one, HX.out, Option.toList_some, List.foldl_append, HX0.out]
            have := HXJ.out
            rw [List.take_length] at this
            exact this)
          have hlr : Hid (WLp w wr x (nTests (s.take (i + 1)))) := Lib.hid ⟨HM.out.at_, HM.out.res, HM.out.kept, by rw [HNT.out]; exact HM.out.low⟩
          go_wp2_with fail
          go_roundw
          case measure => simp [intOf]; omega
          case rel => exact ⟨i + 1, x, by omega, by go_num, hlr, hnx⟩
    · obtain rfl : i = List.length s := by omega
      obtain ⟨x1, x2, x3⟩ := HL.out.cell
      have r0 := freeIn HL.out.res 0
      have r1 := freeIn HL.out.res 1
      have r2 := freeIn HL.out.res 2
      have q0 : wr0.cell? ⟨w.heap.size, 0, none⟩ = some (.int .i64 ((0 : Nat) : Int)) := cellIn HL.out.res 0 rfl
      have q1 : wr0.cell? ⟨w.heap.size, 1, none⟩ = some (.int .i64 ((0 : Nat) : Int)) := cellIn HL.out.res 1 rfl
      have q2 : wr0.cell? ⟨w.heap.size, 2, none⟩ = some (.int .i64 ((0 : Nat) : Int)) := cellIn HL.out.res 2 rfl
      have hfin : Hid (mWeigh s = x0) := Lib.hid (by have := HX0.out; rw [List.take_length] at this; exact this)
      go_wp2_with fail
      have hz : (((wr0.setCell ⟨w.heap.size, 0, none⟩ (.int .i64 (x0.a : Int))).setCell ⟨w.heap.size, 1, none⟩ (.int .i64 (x0.b : Int))).setCell ⟨w.heap.size, 2, none⟩ (.int .i64 (x0.c : Int))).heap[w.heap.size]? = some (.cells #[.int .i64 (x0.a : Int), .int .i64 (x0.b : Int), .int .i64 (x0.c : Int)] 47 (0, 0)) := by
        have := setIn (setIn (setIn HL.out.res 0 (.int .i64 (x0.a : Int))) 1 (.int .i64 (x0.b : Int))) 2 (.int .i64 (x0.c : Int))
        simpa using this
      have kz : Kept (fun _ => False) w (((wr0.setCell ⟨w.heap.size, 0, none⟩ (.int .i64 (x0.a : Int))).setCell ⟨w.heap.size, 1, none⟩ (.int .i64 (x0.b : Int))).setCell ⟨w.heap.size, 2, none⟩ (.int .i64 (x0.c : Int))) := ((HL.out.kept.setCell (p := ⟨w.heap.size, 0, none⟩) (.inr (Nat.le_refl _)) _).setCell (p := ⟨w.heap.size, 1, none⟩) (.inr (Nat.le_refl _)) _).setCell (p := ⟨w.heap.size, 2, none⟩) (.inr (Nat.le_refl _)) _
      generalize (((wr0.setCell ⟨w.heap.size, 0, none⟩ (.int .i64 (x0.a : Int))).setCell ⟨w.heap.size, 1, none⟩ (.int .i64 (x0.b : Int))).setCell ⟨w.heap.size, 2, none⟩ (.int .i64 (x0.c : Int))) = wz at *
      have z0 : wz.cell? ⟨w.heap.size, 0, none⟩ = some (.int .i64 (x0.a : Int)) := cellIn hz 0 rfl
      have z1 : wz.cell? ⟨w.heap.size, 1, none⟩ = some (.int .i64 (x0.b : Int)) := cellIn hz 1 rfl
      have z2 : wz.cell? ⟨w.heap.size, 2, none⟩ = some (.int .i64 (x0.c : Int)) := cellIn hz 2 rfl
      refine bodyPost_ret (v := wtVal x0) (by simp [results, Tryd.results24, go_sem, z0, z1, z2, wtVal]) rfl ?_
      rw [hfin.out]
      exact ⟨rfl, kz⟩
end Go.Proofs.YtplbdlgmjehckaaDoor
