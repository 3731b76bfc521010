/-
  Lemmas for the claims of this seat: the program's functions walked, and plain laws. In this order: MtWeigh MtBest CaSmall.
-/
import Derived.Test.YtplbdlgmjehckadGreatDoorPk14
import Derived.Test.YtplbdlgmjehckadGreatDoorPk4
namespace Go.Proofs.YtplbdlgmjehckadGreatDoor
open Go.RowKit
set_option linter.unusedVariables false
set_option linter.unusedSimpArgs false
set_option maxRecDepth 100000 in
set_option maxHeartbeats 1600000 in
theorem matches_any (ns : List PNode) (hns : MtCtx ns) (s : PSel) (m : Int) (w : World) (v sv : Value) (k : Int) (hv : NodesAt w v ns) (hp : PartsAt w sv s) (hk : -9223372036854775808 ≤ k ∧ k ≤ 9223372036854775807) (hm : w.cell? ⟨0, 0, none⟩ = some (.int .i64 m)) :
    Calls Tryz.prog 84 #[v, .int .i64 k, sv] w (AtEnds w (mMatches ns k s)) := by
  obtain ⟨r, HR⟩ : ∃ r, Hid (mMatches ns k s = r) := ⟨_, rfl⟩
  rw [HR.out]
  obtain ⟨na, ncap, rfl, hnc1, hnc2⟩ := hv.form
  obtain ⟨pa, pcap, rfl, hpc1, hpc2⟩ := NestAt.form hp
  unfold maxLen at hnc2 hpc2
  have hfew := hns.few
  by_cases hs0 : s = []
  · have hl0 : List.length s = 0 := by simp [hs0]
    have hr : Hid (false = r) := Lib.hid (by rw [← HR.out, hs0]; rfl)
    rw [hl0]
    clear hl0 hv hp
    go_enter Tryz.func84, Tryz.ntmps84
    go_wp2_with fail
    go_ret
    exact ⟨retb hr.out, Kept.refl _ _⟩
  · have hl0 : 0 < List.length s := List.length_pos_iff.2 hs0
    have hR : Hid (mAt ns s.reverse k = r) := Lib.hid (by
      rw [← HR.out]; unfold mMatches
      rw [show s.isEmpty = false from by simpa using hs0]; rfl)
    by_cases h0 : k < 0
    · have hr : Hid (false = r) := Lib.hid (by
        rw [← hR.out]
        cases h : mAt ns s.reverse k with
        | false => rfl
        | true => have := mAt_inR h; simp [inR] at this; omega)
      clear hv hp
      go_enter Tryz.func84, Tryz.ntmps84
      go_wp2_with fail
      go_ret
      exact ⟨retb hr.out, Kept.refl _ _⟩
    · by_cases h1 : (ns.length : Int) ≤ k
      · have hr : Hid (false = r) := Lib.hid (by
          rw [← hR.out]
          cases h : mAt ns s.reverse k with
          | false => rfl
          | true => have := mAt_inR h; simp [inR] at this; omega)
        clear hv hp
        go_enter Tryz.func84, Tryz.ntmps84
        go_wp2_with fail
        go_ret
        exact ⟨retb hr.out, Kept.refl _ _⟩
      · have HC := Lib.hid (at_any ns hns s m (List.length s) (by omega) (Nat.le_refl _) w _ _ k hv hp hk hm)
        rw [List.take_length, hR.out] at HC
        clear hv hp
        go_enter Tryz.func84, Tryz.ntmps84
        go_wp2_with (go_at_call 112; refine HC.out.mono ?_; rintro e w3 ⟨rfl, hk3⟩)
        go_ret
        exact ⟨rfl, hk3⟩
def nTests (s : PSel) : Nat := (s.map fun p => p.tests.length).sum
def wtVal (x : PWt) : Value := .agg #[.int .i64 (x.a : Int), .int .i64 (x.b : Int), .int .i64 (x.c : Int)]
def WtAt (w : World) (c : Nat) (x : PWt) : Prop := w.heap[c]? = some (.cells #[.int .i64 (x.a : Int), .int .i64 (x.b : Int), .int .i64 (x.c : Int)] 126 (0, 0))
def PWt.low (x : PWt) (n : Nat) : Prop := x.a ≤ n ∧ x.b ≤ n ∧ x.c ≤ n
theorem wTest_low {x : PWt} {n : Nat} (h : x.low n) (t : PTest) : (wTest x t).low (n + 1) := by
  obtain ⟨h1, h2, h3⟩ := h
  unfold wTest
  split
  · exact ⟨by simp; omega, by simp; omega, by simp; omega⟩
  · split
    · exact ⟨by simp; omega, by simp; omega, by simp; omega⟩
    · split
      · exact ⟨by simp; omega, by simp; omega, by simp; omega⟩
      · exact ⟨by omega, by omega, by omega⟩
theorem nTests_take (s : PSel) (i : Nat) {p : PPart} (h : s[i]? = some p) : nTests (s.take (i + 1)) = nTests (s.take i) + p.tests.length := by
  unfold nTests
  rw [List.take_add_one, h, Option.toList_some, List.map_append, List.sum_append]
  simp
theorem nTests_le (s : PSel) (i : Nat) : nTests (s.take i) ≤ nTests s := by
  unfold nTests
  conv => rhs; rw [← List.take_append_drop i s, List.map_append, List.sum_append]
  omega
structure WLp (w wr : World) (x : PWt) (n : Nat) : Prop where
  at_ : WtAt wr (w.heap.size + 1) x
  res : WtAt wr w.heap.size ⟨0, 0, 0⟩
  kept : Kept (fun _ => False) w wr
  low : x.low n
theorem WLp.alloc {w wr : World} {x : PWt} {n : Nat} (h : WLp w wr x n) (o : Obj) : WLp w (wr.alloc o) x n := ⟨oldIn h.at_ o, oldIn h.res o, h.kept.alloc o, h.low⟩
theorem WLp.cell {w wr : World} {x : PWt} {n : Nat} (h : WLp w wr x n) : wr.cell? ⟨w.heap.size + 1, 0, none⟩ = some (.int .i64 (x.a : Int)) ∧ wr.cell? ⟨w.heap.size + 1, 1, none⟩ = some (.int .i64 (x.b : Int)) ∧ wr.cell? ⟨w.heap.size + 1, 2, none⟩ = some (.int .i64 (x.c : Int)) :=
  ⟨cellIn h.at_ 0 rfl, cellIn h.at_ 1 rfl, cellIn h.at_ 2 rfl⟩
theorem WLp.put {w wr : World} {x y : PWt} {n m : Nat} (h : WLp w wr x n) (j : Nat) (z : Int) (hy : (#[Value.int .i64 (x.a : Int), .int .i64 (x.b : Int), .int .i64 (x.c : Int)]).setIfInBounds j (.int .i64 z) = #[.int .i64 (y.a : Int), .int .i64 (y.b : Int), .int .i64 (y.c : Int)]) (hl : y.low m) :
    WLp w (wr.setCell ⟨w.heap.size + 1, j, none⟩ (.int .i64 z)) y m := by
  refine ⟨?_, otherIn h.res _ _ (by show w.heap.size ≠ w.heap.size + 1; omega), h.kept.setCell (p := ⟨w.heap.size + 1, j, none⟩) (.inr (by show w.heap.size ≤ w.heap.size + 1; omega)) _, hl⟩
  have := setIn h.at_ j (.int .i64 z)
  rw [hy] at this
  exact this
theorem low_mono {x : PWt} {n m : Nat} (h : x.low n) (hn : n ≤ m) : x.low m := ⟨Nat.le_trans h.1 hn, Nat.le_trans h.2.1 hn, Nat.le_trans h.2.2 hn⟩
set_option maxRecDepth 100000 in
set_option maxHeartbeats 3200000 in
theorem weigh_any (s : PSel) (w : World) (sv : Value) (hp : PartsAt w sv s) (hn : nTests s ≤ 1048576) :
    Calls Tryz.prog 85 #[sv] w fun e w' => e = .returned (wtVal (mWeigh s)) ∧ Kept (fun _ => False) w w' := by
  obtain ⟨pa, pcap, rfl, hpc1, hpc2⟩ := NestAt.form hp
  unfold maxLen at hpc2
  have HP := Lib.hid hp
  have HN := Lib.hid hn
  clear hp hn
  have hw0 : WLp w ((w.alloc (.cells #[.int .i64 0, .int .i64 0, .int .i64 0] 126 (0, 0))).alloc (.cells #[.int .i64 0, .int .i64 0, .int .i64 0] 126 (0, 0))) ⟨0, 0, 0⟩ 0 := by
    refine ⟨?_, oldIn (newIn w _) _, ((Kept.refl _ w).alloc _).alloc _, Nat.le_refl _, Nat.le_refl _, Nat.le_refl _⟩
    have := newIn (w.alloc (.cells #[.int .i64 0, .int .i64 0, .int .i64 0] 126 (0, 0))) (.cells #[.int .i64 0, .int .i64 0, .int .i64 0] 126 (0, 0))
    simpa [WtAt] using this
  have HW0 := Lib.hid hw0
  clear hw0
  go_enter Tryz.func85, Tryz.ntmps85
  go_wp2_with fail
  go_loopw [10] (fun i wr => ∃ (k : Nat) (x : PWt), k ≤ List.length s ∧ i = .int .i64 k ∧ Hid (WLp w wr x (nTests (s.take k))) ∧ Hid ((s.take k).foldl wPart ⟨0, 0, 0⟩ = x)) (fun i _ => List.length s - (intOf i).toNat)
  case atStart => exact ⟨0, ⟨0, 0, 0⟩, by omega, rfl, HW0, Lib.hid rfl⟩
  case round =>
    obtain ⟨i, x0, hi, rfl, HL, HX0⟩ := hrel
    obtain ⟨wr0, hwr0⟩ : ∃ x, x = wr := ⟨_, rfl⟩
    subst hwr0
    by_cases hlt : i < List.length s
    · have hx := List.getElem?_eq_getElem hlt
      generalize hgx : s[i] = p at hx
      clear hgx
      obtain ⟨pb, po, tv, rfl, hpc, hpt⟩ := NestAt.at HP.out hx
      have p0 : wr0.cell? ⟨pb, po + i * 2, none⟩ = some (.int .i64 p.join) := HL.out.kept.cell id (hpc 0 _ rfl)
      have p1 : wr0.cell? ⟨pb, po + i * 2 + 1, none⟩ = some tv := HL.out.kept.cell id (hpc 1 _ rfl)
      obtain ⟨ta, tc, rfl, htc1, htc2⟩ := TestsAt.form hpt
      unfold maxLen at htc2
      have hnt := nTests_take s i hx
      have hnl := nTests_le s (i + 1)
      have HNT := Lib.hid hnt
      have hbase : Hid (nTests (s.take i) + p.tests.length ≤ 1048576) := Lib.hid (by have := HN.out; omega)
      have HX := Lib.hid hx
      have HPT := Lib.hid hpt
      clear hx hpc hpt hnt hnl
      go_upto_region 5 with fail
      obtain ⟨wa, HWA⟩ : ∃ x', Hid (wr0.alloc (.cells #[.int .i64 p.join, .slice ta p.tests.length tc] 193 (0, 0)) = x') := ⟨_, rfl⟩
      have c1 : wa.cell? ⟨wr0.heap.size, 1, none⟩ = some (.slice ta p.tests.length tc) := by rw [← HWA.out]; exact cellIn (newIn wr0 _) 1 rfl
      have HLA : Hid (WLp w wa x0 (nTests (s.take i))) := Lib.hid (by rw [← HWA.out]; exact HL.out.alloc _)
      clear p0 p1
      rw [HWA.out]
      go_wp2_with fail
      go_loopw [17] (fun j wx => ∃ (l : Nat) (x : PWt), l ≤ p.tests.length ∧ j = .int .i64 l ∧ Hid (WLp w wx x (nTests (s.take i) + l)) ∧ Hid ((p.tests.take l).foldl wTest x0 = x)) (fun j _ => p.tests.length - (intOf j).toNat)
      case atStart => exact ⟨0, x0, by omega, rfl, HLA, Lib.hid rfl⟩
      case round =>
        obtain ⟨l, x, hl, rfl, HM, HXJ⟩ := hrel
        by_cases hlt2 : l < p.tests.length
        · have hy := List.getElem?_eq_getElem hlt2
          generalize hgy : p.tests[l] = t at hy
          clear hgy
          obtain ⟨tb, to_, rfl, t0, t1, t2⟩ := TestsAt.at (tests_firm.kept HPT.out HM.out.kept) hy
          have HY := Lib.hid hy
          clear hy
          go_upto_region 8 with fail
          obtain ⟨wb, HWB⟩ : ∃ x', Hid (wr.alloc (.cells #[.int .i64 t.kind, .string (str t.name), .string (str t.val)] 195 (0, 0)) = x') := ⟨_, rfl⟩
          have d0 : wb.cell? ⟨wr.heap.size, 0, none⟩ = some (.int .i64 t.kind) := by rw [← HWB.out]; exact cellIn (newIn wr _) 0 rfl
          have HMB : Hid (WLp w wb x (nTests (s.take i) + l)) := Lib.hid (by rw [← HWB.out]; exact HM.out.alloc _)
          obtain ⟨x1, x2, x3⟩ := HMB.out.cell
          have hlow := HMB.out.low
          obtain ⟨l1, l2, l3⟩ := hlow
          have hb1 := hbase.out
          have fz := freeIn HMB.out.at_
          have f0 := fz 0
          have f1 := fz 1
          have f2 := fz 2
          have hnx : Hid ((p.tests.take (l + 1)).foldl wTest x0 = wTest x t) := Lib.hid (by
            rw [List.take_add_one, HY.out, Option.toList_some, List.foldl_append, HXJ.out]; rfl)
          have hlw := Lib.hid (wTest_low HMB.out.low t)
          obtain ⟨xa, xb, xc⟩ := x
          simp only at x1 x2 x3 l1 l2 l3
          clear t0 t1 t2 fz
          rw [HWB.out]
          by_cases k3 : t.kind = 3
          · have e3 : (t.kind == 3) = true := by simp [k3]
            have hy : Hid (wTest ⟨xa, xb, xc⟩ t = ⟨xa + 1, xb, xc⟩) := Lib.hid (by simp [wTest, k3])
            rw [hy.out] at hnx hlw
            clear k3
            go_wp2_with fail
            go_roundw
            case measure => simp [intOf]; omega
            case rel => exact ⟨l + 1, _, by omega, by go_num, Lib.hid (HMB.out.put 0 _ (by simp) hlw.out), hnx⟩
          · have e3 : (t.kind == 3) = false := by simp [k3]
            by_cases k1 : t.kind = 1
            · have e1 : (t.kind == 1) = true := by simp [k1]
              have hy : Hid (wTest ⟨xa, xb, xc⟩ t = ⟨xa, xb, xc + 1⟩) := Lib.hid (by simp [wTest, k1])
              rw [hy.out] at hnx hlw
              clear k3 k1
              go_wp2_with fail
              go_roundw
              case measure => simp [intOf]; omega
              case rel => exact ⟨l + 1, _, by omega, by go_num, Lib.hid (HMB.out.put 2 _ (by simp) hlw.out), hnx⟩
            · have e1 : (t.kind == 1) = false := by simp [k1]
              by_cases k2 : t.kind = 2
              · have e2 : (t.kind == 2) = true := by simp [k2]
                have hy : Hid (wTest ⟨xa, xb, xc⟩ t = ⟨xa, xb + 1, xc⟩) := Lib.hid (by simp [wTest, k2])
                rw [hy.out] at hnx hlw
                clear k3 k1 k2
                go_wp2_with fail
                go_roundw
                case measure => simp [intOf]; omega
                case rel => exact ⟨l + 1, _, by omega, by go_num, Lib.hid (HMB.out.put 1 _ (by simp) hlw.out), hnx⟩
              · have e2 : (t.kind == 2) = false := by simp [k2]
                by_cases k4 : t.kind = 4
                · have e4 : (t.kind == 4) = true := by simp [k4]
                  have hy : Hid (wTest ⟨xa, xb, xc⟩ t = ⟨xa, xb + 1, xc⟩) := Lib.hid (by simp [wTest, k4])
                  rw [hy.out] at hnx hlw
                  clear k3 k1 k2 k4
                  go_wp2_with fail
                  go_roundw
                  case measure => simp [intOf]; omega
                  case rel => exact ⟨l + 1, _, by omega, by go_num, Lib.hid (HMB.out.put 1 _ (by simp) hlw.out), hnx⟩
                · have e4 : (t.kind == 4) = false := by simp [k4]
                  by_cases k5 : t.kind = 5
                  · have e5 : (t.kind == 5) = true := by simp [k5]
                    have hy : Hid (wTest ⟨xa, xb, xc⟩ t = ⟨xa, xb + 1, xc⟩) := Lib.hid (by simp [wTest, k5])
                    rw [hy.out] at hnx hlw
                    clear k3 k1 k2 k4 k5
                    go_wp2_with fail
                    go_roundw
                    case measure => simp [intOf]; omega
                    case rel => exact ⟨l + 1, _, by omega, by go_num, Lib.hid (HMB.out.put 1 _ (by simp) hlw.out), hnx⟩
                  · have e5 : (t.kind == 5) = false := by simp [k5]
                    by_cases k6 : t.kind = 6
                    · have e6 : (t.kind == 6) = true := by simp [k6]
                      have hy : Hid (wTest ⟨xa, xb, xc⟩ t = ⟨xa, xb + 1, xc⟩) := Lib.hid (by simp [wTest, k6])
                      rw [hy.out] at hnx hlw
                      clear k3 k1 k2 k4 k5 k6
                      go_wp2_with fail
                      go_roundw
                      case measure => simp [intOf]; omega
                      case rel => exact ⟨l + 1, _, by omega, by go_num, Lib.hid (HMB.out.put 1 _ (by simp) hlw.out), hnx⟩
                    · have e6 : (t.kind == 6) = false := by simp [k6]
                      have hy : Hid (wTest ⟨xa, xb, xc⟩ t = ⟨xa, xb, xc⟩) := Lib.hid (by simp [wTest, k3, k1, k2, k4, k5, k6])
                      clear k3 k1 k2 k4 k5 k6
                      rw [hy.out] at hnx hlw
                      go_wp2_with fail
                      go_roundw
                      case measure => simp [intOf]; omega
                      case rel => exact ⟨l + 1, _, by omega, by go_num, Lib.hid ⟨HMB.out.at_, HMB.out.res, HMB.out.kept, hlw.out⟩, hnx⟩
        · obtain rfl : l = p.tests.length := by omega
          go_wp2_with fail
          go_roundw
          case measure => simp [intOf]; omega
          case rel =>
            refine ⟨i + 1, x, by omega, by go_num, Lib.hid ?_, Lib.hid ?_⟩
            · rw [HNT.out]; exact HM.out
            · rw [List.take_add_one, HX.out, Option.toList_some, List.foldl_append, HX0.out]
              have := HXJ.out
              rw [List.take_length] at this
              exact this
    · obtain rfl : i = List.length s := by omega
      obtain ⟨x1, x2, x3⟩ := HL.out.cell
      have r0 := freeIn HL.out.res 0
      have r1 := freeIn HL.out.res 1
      have r2 := freeIn HL.out.res 2
      have q0 : wr0.cell? ⟨w.heap.size, 0, none⟩ = some (.int .i64 ((0 : Nat) : Int)) := cellIn HL.out.res 0 rfl
      have q1 : wr0.cell? ⟨w.heap.size, 1, none⟩ = some (.int .i64 ((0 : Nat) : Int)) := cellIn HL.out.res 1 rfl
      have q2 : wr0.cell? ⟨w.heap.size, 2, none⟩ = some (.int .i64 ((0 : Nat) : Int)) := cellIn HL.out.res 2 rfl
      have hfin : Hid (mWeigh s = x0) := Lib.hid (by have := HX0.out; rw [List.take_length] at this; exact this)
      go_wp2_with fail
      have hz : (((wr0.setCell ⟨w.heap.size, 0, none⟩ (.int .i64 (x0.a : Int))).setCell ⟨w.heap.size, 1, none⟩ (.int .i64 (x0.b : Int))).setCell ⟨w.heap.size, 2, none⟩ (.int .i64 (x0.c : Int))).heap[w.heap.size]? = some (.cells #[.int .i64 (x0.a : Int), .int .i64 (x0.b : Int), .int .i64 (x0.c : Int)] 126 (0, 0)) := by
        have := setIn (setIn (setIn HL.out.res 0 (.int .i64 (x0.a : Int))) 1 (.int .i64 (x0.b : Int))) 2 (.int .i64 (x0.c : Int))
        simpa using this
      have kz : Kept (fun _ => False) w (((wr0.setCell ⟨w.heap.size, 0, none⟩ (.int .i64 (x0.a : Int))).setCell ⟨w.heap.size, 1, none⟩ (.int .i64 (x0.b : Int))).setCell ⟨w.heap.size, 2, none⟩ (.int .i64 (x0.c : Int))) := ((HL.out.kept.setCell (p := ⟨w.heap.size, 0, none⟩) (.inr (Nat.le_refl _)) _).setCell (p := ⟨w.heap.size, 1, none⟩) (.inr (Nat.le_refl _)) _).setCell (p := ⟨w.heap.size, 2, none⟩) (.inr (Nat.le_refl _)) _
      generalize (((wr0.setCell ⟨w.heap.size, 0, none⟩ (.int .i64 (x0.a : Int))).setCell ⟨w.heap.size, 1, none⟩ (.int .i64 (x0.b : Int))).setCell ⟨w.heap.size, 2, none⟩ (.int .i64 (x0.c : Int))) = wz at *
      have z0 : wz.cell? ⟨w.heap.size, 0, none⟩ = some (.int .i64 (x0.a : Int)) := cellIn hz 0 rfl
      have z1 : wz.cell? ⟨w.heap.size, 1, none⟩ = some (.int .i64 (x0.b : Int)) := cellIn hz 1 rfl
      have z2 : wz.cell? ⟨w.heap.size, 2, none⟩ = some (.int .i64 (x0.c : Int)) := cellIn hz 2 rfl
      refine bodyPost_ret (v := wtVal x0) (by simp [results, Tryz.results85, go_sem, z0, z1, z2, wtVal]) rfl ?_
      rw [hfin.out]
      exact ⟨rfl, kz⟩
end Go.Proofs.YtplbdlgmjehckadGreatDoor

namespace Go.Proofs.YtplbdlgmjehckadGreatDoor
open Go.RowKit
set_option linter.unusedVariables false
set_option linter.unusedSimpArgs false
def IntsAt (w : World) (b : Nat) (x : PWt) : Prop := w.cell? ⟨b, 0, none⟩ = some (.int .i64 (x.a : Int)) ∧ w.cell? ⟨b, 1, none⟩ = some (.int .i64 (x.b : Int)) ∧ w.cell? ⟨b, 2, none⟩ = some (.int .i64 (x.c : Int))
theorem WtAt.ints {w : World} {b : Nat} {x : PWt} (h : WtAt w b x) : IntsAt w b x := ⟨cellIn h 0 rfl, cellIn h 1 rfl, cellIn h 2 rfl⟩
def Same3 (x y : PWt) (k : Nat) : Prop := (0 < k → x.a = y.a) ∧ (1 < k → x.b = y.b) ∧ (2 < k → x.c = y.c)
theorem cmp_step {w : World} {b1 b2 : Nat} {x y : PWt} {n : Nat} (h1 : IntsAt w b1 x) (h2 : IntsAt w b2 y) (hx : x.low n) (hy : y.low n) {k : Nat} (hk : k < 3) (hs : Same3 x y k) :
    ∃ u v : Nat, w.cell? ⟨b1, 0 + k, none⟩ = some (.int .i64 (u : Int)) ∧ w.cell? ⟨b2, 0 + k, none⟩ = some (.int .i64 (v : Int)) ∧ u ≤ n ∧ v ≤ n ∧ (u < v → wLt y x = false ∧ wLt x y = true) ∧ (v < u → wLt y x = true) ∧ (u = v → Same3 x y (k + 1)) := by
  obtain ⟨p0, p1, p2⟩ := h1
  obtain ⟨q0, q1, q2⟩ := h2
  obtain ⟨l0, l1, l2⟩ := hx
  obtain ⟨m0, m1, m2⟩ := hy
  obtain ⟨s0, s1, s2⟩ := hs
  rcases (by omega : k = 0 ∨ k = 1 ∨ k = 2) with rfl | rfl | rfl
  · refine ⟨_, _, p0, q0, l0, m0, fun h => ?_, fun h => ?_, fun h => ⟨fun _ => h, by omega, by omega⟩⟩
    · constructor <;> (simp [wLt]; omega)
    · simp [wLt]; omega
  · have e0 := s0 (by omega)
    refine ⟨_, _, p1, q1, l1, m1, fun h => ?_, fun h => ?_, fun h => ⟨fun _ => e0, fun _ => h, by omega⟩⟩
    · constructor <;> (simp [wLt]; omega)
    · simp [wLt]; omega
  · have e0 := s0 (by omega)
    have e1 := s1 (by omega)
    refine ⟨_, _, p2, q2, l2, m2, fun h => ?_, fun h => ?_, fun h => ⟨fun _ => e0, fun _ => e1, fun _ => h⟩⟩
    · constructor <;> (simp [wLt]; omega)
    · simp [wLt]; omega
def cmp3 (x y : PWt) : Int := if wLt y x = true then 1 else if wLt x y = true then -1 else 0
set_option maxRecDepth 100000 in
set_option maxHeartbeats 1600000 in
theorem compare3_any (w : World) (b1 b2 : Nat) (x y : PWt) (h1 : IntsAt w b1 x) (h2 : IntsAt w b2 y) (hx : x.low 1048576) (hy : y.low 1048576) :
    Calls Tryz.prog 81 #[.slice (some ⟨b1, 0, none⟩) 3 3, .slice (some ⟨b2, 0, none⟩) 3 3] w fun e w' => e = .returned (.int .i64 (cmp3 x y)) ∧ w' = w := by
  have H1 := Lib.hid h1
  have H2 := Lib.hid h2
  have HX := Lib.hid hx
  have HY := Lib.hid hy
  clear h1 h2 hx hy
  go_enter Tryz.func81, Tryz.ntmps81
  go_wp2_with fail
  go_loopw [11] (fun i wr => ∃ k : Nat, k ≤ 3 ∧ i = .int .i64 k ∧ wr = w ∧ Hid (Same3 x y k)) (fun i _ => 3 - (intOf i).toNat)
  case atStart => exact ⟨0, by omega, rfl, rfl, Lib.hid ⟨by omega, by omega, by omega⟩⟩
  case round =>
    obtain ⟨k, hk, rfl, rfl, HS⟩ := hrel
    by_cases hlt : k < 3
    · obtain ⟨u, v, c1, c2, hu, hv, hA, hB, hC⟩ := cmp_step H1.out H2.out HX.out HY.out hlt HS.out
      have HA := Lib.hid hA
      have HB := Lib.hid hB
      have HC := Lib.hid hC
      clear hA hB hC
      have HK := Lib.hid (Tryz.cmp_Compare_int (u : Int) (v : Int) wr)
      have ed : decide ((k : Int) < 3) = true := by simp; omega
      have ee : decide (3 ≤ (k : Int)) = false := by simp; omega
      rw [Nat.zero_add] at c1 c2
      by_cases g1 : u < v
      · have e1 : Lib.compareInt (u : Int) (v : Int) = -1 := by unfold Lib.compareInt; rw [if_pos (by omega)]
        rw [e1] at HK
        clear e1
        go_wp2_with (go_at_call 80; refine HK.out.mono ?_; rintro e w2 ⟨rfl, rfl⟩)
        go_ret
        exact ⟨by unfold cmp3; rw [(HA.out g1).1, (HA.out g1).2]; rfl, rfl⟩
      · by_cases g2 : v < u
        · have e1 : Lib.compareInt (u : Int) (v : Int) = 1 := by unfold Lib.compareInt; rw [if_neg (by omega), if_pos (by omega)]
          rw [e1] at HK
          clear e1
          go_wp2_with (go_at_call 80; refine HK.out.mono ?_; rintro e w2 ⟨rfl, rfl⟩)
          go_ret
          exact ⟨by unfold cmp3; rw [HB.out g2]; rfl, rfl⟩
        · have e1 : Lib.compareInt (u : Int) (v : Int) = 0 := by unfold Lib.compareInt; rw [if_neg (by omega), if_neg (by omega)]
          rw [e1] at HK
          clear e1
          go_wp2_with (go_at_call 80; refine HK.out.mono ?_; rintro e w2 ⟨rfl, rfl⟩)
          go_roundw
          case measure => simp [intOf]; omega
          case rel => exact ⟨k + 1, by omega, by go_num, trivial, Lib.hid (HC.out (by omega))⟩
    · obtain rfl : k = 3 := by omega
      go_wp2_with fail
      go_ret
      refine ⟨?_, rfl⟩
      obtain ⟨s0, s1, s2⟩ := HS.out
      obtain ⟨xa, xb, xc⟩ := x
      obtain ⟨ya, yb, yc⟩ := y
      have h1 := s0 (by omega)
      have h2 := s1 (by omega)
      have h3 := s2 (by omega)
      simp only at h1 h2 h3
      subst h1; subst h2; subst h3
      simp [cmp3, wLt]
theorem info_weight : (Tryz.prog.info? 126).map (fun i => (i.zero, i.size, i.bytes)) = some (some (.agg #[.int .i64 0, .int .i64 0, .int .i64 0]), 3, 24) := by kernel_rfl
def ruleVal (r : PRule) (u : Value) : Value := .agg (ruleCells r u).toArray
def FewTests (sels : List PSel) : Prop := sels.length ≤ 1048576 ∧ ∀ s ∈ sels, nTests s ≤ 1048576
theorem weigh_low (s : PSel) : (mWeigh s).low (nTests s) := by
  suffices h : ∀ (ps : List PPart) (x : PWt) (n : Nat), x.low n → (ps.foldl wPart x).low (n + nTests ps) by
    have := h s ⟨0, 0, 0⟩ 0 ⟨Nat.le_refl _, Nat.le_refl _, Nat.le_refl _⟩
    rwa [Nat.zero_add] at this
  intro ps
  induction ps with
  | nil => intro x n h; exact h
  | cons p ps ih =>
    intro x n h
    have h1 : (wPart x p).low (n + p.tests.length) := by
      unfold wPart
      generalize p.tests = ts
      induction ts generalizing x n with
      | nil => exact h
      | cons t ts iht => have := iht (wTest x t) (n + 1) (wTest_low h t); simp only [List.foldl_cons, List.length_cons]; rwa [show n + (ts.length + 1) = n + 1 + ts.length by omega]
    have := ih _ _ h1
    have e : nTests (p :: ps) = p.tests.length + nTests ps := by simp [nTests]
    rw [e, ← Nat.add_assoc]
    exact this
structure BLp (w wr : World) (c : Nat) (acc : PWt × Bool) : Prop where
  at_ : WtAt wr (c + 1) acc.1
  res : WtAt wr c ⟨0, 0, 0⟩
  new : w.heap.size ≤ c
  kept : Kept (fun _ => False) w wr
  low : acc.1.low 1048576
theorem BLp.kept_by {w wr wx : World} {c : Nat} {acc : PWt × Bool} (h : BLp w wr c acc) (hk : Kept (fun _ => False) wr wx) : BLp w wx c acc := ⟨hk.heap id h.at_, hk.heap id h.res, h.new, h.kept.trans hk, h.low⟩
theorem BLp.put {w wr : World} {c : Nat} {acc : PWt × Bool} (h : BLp w wr c acc) (x y z : Nat) (hl : PWt.low ⟨x, y, z⟩ 1048576) (b : Bool) :
    BLp w (((wr.setCell ⟨c + 1, 0, none⟩ (.int .i64 (x : Int))).setCell ⟨c + 1, 1, none⟩ (.int .i64 (y : Int))).setCell ⟨c + 1, 2, none⟩ (.int .i64 (z : Int))) c (⟨x, y, z⟩, b) := by
  have hn := h.new
  refine ⟨?_, otherIn (otherIn (otherIn h.res _ _ (by show c ≠ c + 1; omega)) _ _ (by show c ≠ c + 1; omega)) _ _ (by show c ≠ c + 1; omega), hn,
    ((h.kept.setCell (p := ⟨c + 1, 0, none⟩) (.inr (by show w.heap.size ≤ c + 1; omega)) _).setCell (p := ⟨c + 1, 1, none⟩) (.inr (by show w.heap.size ≤ c + 1; omega)) _).setCell (p := ⟨c + 1, 2, none⟩) (.inr (by show w.heap.size ≤ c + 1; omega)) _, hl⟩
  have := setIn (setIn (setIn h.at_ 0 (.int .i64 (x : Int))) 1 (.int .i64 (y : Int))) 2 (.int .i64 (z : Int))
  simpa [WtAt] using this
theorem BLp.drewN {w wr : World} {c : Nat} {acc : PWt × Bool} (h : BLp w wr c acc) (n : Nat) : BLp w (wr.drewN n) c acc := h.kept_by ((Kept.refl _ wr).drewN n)
def BestEnds (w : World) (r : PWt × Bool) (e : Ending) (w' : World) : Prop := e = .returned (.tuple #[wtVal r.1, .bool r.2]) ∧ Kept (fun _ => False) w w'
set_option maxRecDepth 100000 in
set_option maxHeartbeats 3200000 in
theorem best_any (ns : List PNode) (hns : MtCtx ns) (r : PRule) (u : Value) (m : Int) (w : World) (v : Value) (k : Int) (hv : NodesAt w v ns) (hr : RuleAt w u r) (hf : FewTests r.sels) (hk : -9223372036854775808 ≤ k ∧ k ≤ 9223372036854775807) (hm : w.cell? ⟨0, 0, none⟩ = some (.int .i64 m)) :
    Calls Tryz.prog 51 #[v, .int .i64 k, ruleVal r u] w (BestEnds w (mBest ns k r.sels)) := by
  obtain ⟨sv, dv, rfl, hs, hd⟩ := hr
  obtain ⟨sa, scap, rfl, hsc1, hsc2⟩ := NestAt.form hs
  obtain ⟨da, dcap, rfl, hdc1, hdc2⟩ := DeclsAt.form hd
  unfold maxLen at hsc2 hdc2
  have hfew := hf.1
  have HV := Lib.hid hv
  have HSL := Lib.hid hs
  have HF := Lib.hid hf.2
  have HM := Lib.hid hm
  have HK := Lib.hid hk
  clear hv hs hd hf hm
  show Calls Tryz.prog 51 #[v, .int .i64 k, .agg #[.string (str r.media), .slice sa r.sels.length scap, .slice da r.decls.length dcap, .int .i64 r.lo, .int .i64 r.hi]] w _
  have hb0 : BLp w (((w.alloc (.cells #[.string (str r.media), .slice sa r.sels.length scap, .slice da r.decls.length dcap, .int .i64 r.lo, .int .i64 r.hi] 49 (0, 0))).alloc (.cells #[.int .i64 0, .int .i64 0, .int .i64 0] 126 (0, 0))).alloc (.cells #[.int .i64 0, .int .i64 0, .int .i64 0] 126 (0, 0))) (w.heap.size + 1) (⟨0, 0, 0⟩, false) := by
    refine ⟨?_, ?_, by omega, (((Kept.refl _ w).alloc _).alloc _).alloc _, Nat.zero_le _, Nat.zero_le _, Nat.zero_le _⟩
    · have := newIn ((w.alloc (.cells #[.string (str r.media), .slice sa r.sels.length scap, .slice da r.decls.length dcap, .int .i64 r.lo, .int .i64 r.hi] 49 (0, 0))).alloc (.cells #[.int .i64 0, .int .i64 0, .int .i64 0] 126 (0, 0))) (.cells #[.int .i64 0, .int .i64 0, .int .i64 0] 126 (0, 0))
      simpa [WtAt] using this
    · have := newIn (w.alloc (.cells #[.string (str r.media), .slice sa r.sels.length scap, .slice da r.decls.length dcap, .int .i64 r.lo, .int .i64 r.hi] 49 (0, 0))) (.cells #[.int .i64 0, .int .i64 0, .int .i64 0] 126 (0, 0))
      exact oldIn (by simpa [WtAt] using this) _
  have HB0 := Lib.hid hb0
  clear hb0
  go_enter Tryz.func51, Tryz.ntmps51
  go_wp2_with fail
  obtain ⟨i0, hi0, hz0, hz1, hz2⟩ := info_parts info_sel
  obtain ⟨j0, hj0, hy0, hy1, hy2⟩ := info_parts info_weight
  go_loopw [9, 16] (fun f i wr => ∃ (j : Nat) (acc : PWt × Bool), j ≤ List.length r.sels ∧ i = .int .i64 j ∧ f = .bool acc.2 ∧ Hid (BLp w wr (w.heap.size + 1) acc) ∧ Hid ((r.sels.take j).foldl (bestStep ns k) (⟨0, 0, 0⟩, false) = acc)) (fun _ i _ => List.length r.sels - (intOf i).toNat)
  case atStart => exact ⟨0, (⟨0, 0, 0⟩, false), by omega, rfl, rfl, HB0, Lib.hid rfl⟩
  case round =>
    obtain ⟨j, acc, hj, rfl, rfl, HL, HX0⟩ := hrel
    obtain ⟨wr0, hwr0⟩ : ∃ x, x = wr := ⟨_, rfl⟩
    subst hwr0
    by_cases hlt : j < List.length r.sels
    · have hx := List.getElem?_eq_getElem hlt
      generalize hgx : r.sels[j] = s at hx
      clear hgx
      obtain ⟨pb, po, pv, rfl, hpc, hpt⟩ := NestAt.at HSL.out hx
      have p0 : wr0.cell? ⟨pb, po + j, none⟩ = some pv := HL.out.kept.cell id (by have := hpc 0 _ rfl; simpa using this)
      obtain ⟨pa, pc, rfl, hpc1, hpc2⟩ := NestAt.form hpt
      unfold maxLen at hpc2
      have HPT := Lib.hid (parts_firm.kept hpt HL.out.kept)
      have hnx : Hid ((r.sels.take (j + 1)).foldl (bestStep ns k) (⟨0, 0, 0⟩, false) = bestStep ns k acc s) := Lib.hid (by
        rw [List.take_add_one, hx, Option.toList_some, List.foldl_append, HX0.out]; rfl)
      have HNT := Lib.hid (HF.out s (List.mem_of_getElem? hx))
      obtain ⟨hit, HIT⟩ : ∃ x, Hid (mMatches ns k s = x) := ⟨_, rfl⟩
      have HMT := matches_any ns hns s m wr0 v _ k (nodes_firm.kept HV.out HL.out.kept) HPT.out HK.out (HL.out.kept.cell id HM.out)
      rw [HIT.out] at HMT
      have HMT := Lib.hid HMT
      clear hx hpc hpt
      obtain ⟨⟨xa, xb, xc⟩, done⟩ := acc
      cases hit with
      | false =>
        have hn2 : Hid (bestStep ns k (⟨xa, xb, xc⟩, done) s = (⟨xa, xb, xc⟩, done)) := Lib.hid (by unfold bestStep; rw [HIT.out]; rfl)
        rw [hn2.out] at hnx
        go_wp2_with (go_at_call 84; refine HMT.out.mono ?_; rintro e w3 ⟨rfl, hk3⟩)
        go_roundw
        case measure => simp [intOf]; omega
        case rel => exact ⟨j + 1, _, by omega, by go_num, by trivial, Lib.hid (HL.out.kept_by hk3), hnx⟩
      | true =>
        obtain ⟨⟨ya, yb, yc⟩, HWY⟩ : ∃ x, Hid (mWeigh s = x) := ⟨_, rfl⟩
        have HYL : Hid (PWt.low ⟨ya, yb, yc⟩ 1048576) := Lib.hid (low_mono (by rw [← HWY.out]; exact weigh_low s) HNT.out)
        have hn2 : Hid (bestStep ns k (⟨xa, xb, xc⟩, done) s = if (!done || wLt ⟨xa, xb, xc⟩ ⟨ya, yb, yc⟩) = true then (⟨ya, yb, yc⟩, true) else (⟨xa, xb, xc⟩, done)) := Lib.hid (by unfold bestStep; rw [HIT.out, HWY.out]; simp)
        rw [hn2.out] at hnx
        clear hn2
        go_upto_region 7 with (go_at_call 84; refine HMT.out.mono ?_; rintro e w3 ⟨rfl, hk3⟩)
        have HW := weigh_any s w3 _ (parts_firm.kept HPT.out hk3) HNT.out
        rw [HWY.out] at HW
        unfold wtVal at HW
        simp only at HW
        have HW := Lib.hid HW
        have HK3 := Lib.hid hk3
        clear hk3
        go_upto_region 8 with (go_at_call 85; refine HW.out.mono ?_; rintro e w4 ⟨rfl, hk4⟩)
        have HL4 := Lib.hid (HL.out.kept_by (HK3.out.trans hk4))
        obtain ⟨wa, HWA⟩ : ∃ x, Hid (w4.alloc (.cells #[.int .i64 (ya : Int), .int .i64 (yb : Int), .int .i64 (yc : Int)] 126 (0, 0)) = x) := ⟨_, rfl⟩
        have hy : WtAt wa w4.heap.size ⟨ya, yb, yc⟩ := by rw [← HWA.out]; exact newIn w4 _
        have hka : Kept (fun _ => False) w4 wa := by rw [← HWA.out]; exact (Kept.refl _ w4).alloc _
        have HLA := Lib.hid (HL4.out.kept_by hka)
        have HY := Lib.hid hy
        have hne : w.heap.size + 2 < w4.heap.size := by
          have h1 := HL4.out.at_
          have := (Array.getElem?_eq_some_iff.1 h1).1
          omega
        clear hy hka
        rw [HWA.out]
        clear hk4 p0
        cases done with
        | false =>
          have hn2 : (if (!false || wLt ⟨xa, xb, xc⟩ ⟨ya, yb, yc⟩) = true then ((⟨ya, yb, yc⟩ : PWt), true) else ((⟨xa, xb, xc⟩ : PWt), false)) = (⟨ya, yb, yc⟩, true) := rfl
          rw [hn2] at hnx
          clear hn2
          obtain ⟨x1, x2, x3⟩ := HLA.out.at_.ints
          obtain ⟨y1, y2, y3⟩ := HY.out.ints
          have fz := freeIn HLA.out.at_
          have f0 := fz 0
          have f1 := fz 1
          have f2 := fz 2
          simp only at x1 x2 x3 y1 y2 y3
          clear fz
          go_wp2_with fail
          go_quiet (fail)
          go_wp2_with fail
          go_roundw
          case measure => simp [intOf]; omega
          case rel => exact ⟨j + 1, _, by omega, by go_num, by trivial, Lib.hid ((HLA.out.drewN nq).put ya yb yc HYL.out true), hnx⟩
        | true =>
          have HC : Hid (∀ n, Calls Tryz.prog 81 #[.slice (some ⟨w4.heap.size, 0, none⟩) 3 3, .slice (some ⟨w.heap.size + 2, 0, none⟩) 3 3] (wa.drewN n) fun e w' => e = .returned (.int .i64 (cmp3 ⟨ya, yb, yc⟩ ⟨xa, xb, xc⟩)) ∧ w' = wa.drewN n) := Lib.hid (fun n => compare3_any (wa.drewN n) w4.heap.size (w.heap.size + 2) ⟨ya, yb, yc⟩ ⟨xa, xb, xc⟩ HY.out.ints HLA.out.at_.ints HYL.out HLA.out.low)
          obtain ⟨lt, HLT⟩ : ∃ b, Hid (wLt ⟨xa, xb, xc⟩ ⟨ya, yb, yc⟩ = b) := ⟨_, rfl⟩
          obtain ⟨x1, x2, x3⟩ := HLA.out.at_.ints
          obtain ⟨y1, y2, y3⟩ := HY.out.ints
          have fz := freeIn HLA.out.at_
          have f0 := fz 0
          have f1 := fz 1
          have f2 := fz 2
          simp only at x1 x2 x3 y1 y2 y3
          clear fz
          cases lt with
          | true =>
            have hn2 : (if (!true || true) = true then ((⟨ya, yb, yc⟩ : PWt), true) else ((⟨xa, xb, xc⟩ : PWt), true)) = (⟨ya, yb, yc⟩, true) := rfl
            rw [HLT.out, hn2] at hnx
            clear hn2
            have hc : cmp3 ⟨ya, yb, yc⟩ ⟨xa, xb, xc⟩ = 1 := by unfold cmp3; rw [HLT.out]; rfl
            rw [hc] at HC
            clear hc
            go_wp2_with fail
            go_quiet ((go_at_call 81; exact Calls.quiet_of_same (HC.out _)))
            go_wp2_with fail
            go_roundw
            case measure => simp [intOf]; omega
            case rel => exact ⟨j + 1, _, by omega, by go_num, by trivial, Lib.hid ((HLA.out.drewN nq).put ya yb yc HYL.out true), hnx⟩
          | false =>
            have hn2 : (if (!true || false) = true then ((⟨ya, yb, yc⟩ : PWt), true) else ((⟨xa, xb, xc⟩ : PWt), true)) = (⟨xa, xb, xc⟩, true) := rfl
            rw [HLT.out, hn2] at hnx
            clear hn2
            cases hgt : wLt ⟨ya, yb, yc⟩ ⟨xa, xb, xc⟩ with
            | true =>
              have hc : cmp3 ⟨ya, yb, yc⟩ ⟨xa, xb, xc⟩ = -1 := by unfold cmp3; rw [HLT.out, hgt]; rfl
              rw [hc] at HC
              clear hc hgt
              go_wp2_with fail
              go_quiet ((go_at_call 81; exact Calls.quiet_of_same (HC.out _)))
              go_wp2_with fail
              go_roundw
              case measure => simp [intOf]; omega
              case rel => exact ⟨j + 1, _, by omega, by go_num, by trivial, Lib.hid (HLA.out.drewN nq), hnx⟩
            | false =>
              have hc : cmp3 ⟨ya, yb, yc⟩ ⟨xa, xb, xc⟩ = 0 := by unfold cmp3; rw [HLT.out, hgt]; rfl
              rw [hc] at HC
              clear hc hgt
              go_wp2_with fail
              go_quiet ((go_at_call 81; exact Calls.quiet_of_same (HC.out _)))
              go_wp2_with fail
              go_roundw
              case measure => simp [intOf]; omega
              case rel => exact ⟨j + 1, _, by omega, by go_num, by trivial, Lib.hid (HLA.out.drewN nq), hnx⟩
    · obtain ⟨⟨xa, xb, xc⟩, done⟩ := acc
      obtain rfl : j = List.length r.sels := by omega
      have HE : Hid (mBest ns k r.sels = (⟨xa, xb, xc⟩, done)) := Lib.hid (by unfold mBest; rw [← HX0.out, List.take_length])
      obtain ⟨x1, x2, x3⟩ := HL.out.at_.ints
      have hres := HL.out.res
      have fz := freeIn hres
      have f0 := fz 0
      have f1 := fz 1
      have f2 := fz 2
      obtain ⟨q0, q1, q2⟩ := hres.ints
      simp only at x1 x2 x3 q0 q1 q2
      clear fz
      go_wp2_with fail
      have hz : (((wr0.setCell ⟨w.heap.size + 1, 0, none⟩ (.int .i64 (xa : Int))).setCell ⟨w.heap.size + 1, 1, none⟩ (.int .i64 (xb : Int))).setCell ⟨w.heap.size + 1, 2, none⟩ (.int .i64 (xc : Int))).heap[w.heap.size + 1]? = some (.cells #[.int .i64 (xa : Int), .int .i64 (xb : Int), .int .i64 (xc : Int)] 126 (0, 0)) := by
        have := setIn (setIn (setIn hres 0 (.int .i64 (xa : Int))) 1 (.int .i64 (xb : Int))) 2 (.int .i64 (xc : Int))
        simpa using this
      have kz : Kept (fun _ => False) w (((wr0.setCell ⟨w.heap.size + 1, 0, none⟩ (.int .i64 (xa : Int))).setCell ⟨w.heap.size + 1, 1, none⟩ (.int .i64 (xb : Int))).setCell ⟨w.heap.size + 1, 2, none⟩ (.int .i64 (xc : Int))) := ((HL.out.kept.setCell (p := ⟨w.heap.size + 1, 0, none⟩) (.inr (by show w.heap.size ≤ w.heap.size + 1; omega)) _).setCell (p := ⟨w.heap.size + 1, 1, none⟩) (.inr (by show w.heap.size ≤ w.heap.size + 1; omega)) _).setCell (p := ⟨w.heap.size + 1, 2, none⟩) (.inr (by show w.heap.size ≤ w.heap.size + 1; omega)) _
      generalize (((wr0.setCell ⟨w.heap.size + 1, 0, none⟩ (.int .i64 (xa : Int))).setCell ⟨w.heap.size + 1, 1, none⟩ (.int .i64 (xb : Int))).setCell ⟨w.heap.size + 1, 2, none⟩ (.int .i64 (xc : Int))) = wz at *
      have z0 : wz.cell? ⟨w.heap.size + 1, 0, none⟩ = some (.int .i64 (xa : Int)) := cellIn hz 0 rfl
      have z1 : wz.cell? ⟨w.heap.size + 1, 1, none⟩ = some (.int .i64 (xb : Int)) := cellIn hz 1 rfl
      have z2 : wz.cell? ⟨w.heap.size + 1, 2, none⟩ = some (.int .i64 (xc : Int)) := cellIn hz 2 rfl
      refine bodyPost_ret (v := .tuple #[wtVal ⟨xa, xb, xc⟩, .bool done]) (by simp [results, Tryz.results51, go_sem, z0, z1, z2, wtVal]) rfl ?_
      rw [HE.out]
      exact ⟨rfl, kz⟩
end Go.Proofs.YtplbdlgmjehckadGreatDoor

namespace Go.Proofs.YtplbdlgmjehckadGreatDoor
open Go.RowKit
set_option linter.unusedVariables false
set_option linter.unusedSimpArgs false
def flagI (b : Bool) : Int := if b then 1 else 0
theorem flag_any (b : Bool) (w : World) : Calls Tryz.prog 78 #[.bool b] w fun e w' => e = .returned (.int .i64 (flagI b)) ∧ w' = w := by
  cases b with
  | true =>
    go_enter Tryz.func78, Tryz.ntmps78
    go_wp2_with fail
    go_ret
    exact ⟨rfl, rfl⟩
  | false =>
    go_enter Tryz.func78, Tryz.ntmps78
    go_wp2_with fail
    go_ret
    exact ⟨rfl, rfl⟩
def or3 (x y z : Int) : Int := if x = 0 then (if y = 0 then z else y) else x
def IntsO (w : World) (b o : Nat) (x y z : Int) : Prop := w.cell? ⟨b, o, none⟩ = some (.int .i64 x) ∧ w.cell? ⟨b, o + 1, none⟩ = some (.int .i64 y) ∧ w.cell? ⟨b, o + 2, none⟩ = some (.int .i64 z)
theorem ints_new (w : World) (x y z : Int) : IntsO (w.alloc (.cells #[.int .i64 x, .int .i64 y, .int .i64 z] 3 (0, 0))).drew w.heap.size 0 x y z :=
  ⟨cellIn (newIn w (.cells #[.int .i64 x, .int .i64 y, .int .i64 z] 3 (0, 0))) 0 rfl, cellIn (newIn w (.cells #[.int .i64 x, .int .i64 y, .int .i64 z] 3 (0, 0))) 1 rfl, cellIn (newIn w (.cells #[.int .i64 x, .int .i64 y, .int .i64 z] 3 (0, 0))) 2 rfl⟩
theorem ints_step {w : World} {b o : Nat} {x y z : Int} (h : IntsO w b o x y z) {k : Nat} (hk : k < 3) : ∃ u : Int, w.cell? ⟨b, o + k, none⟩ = some (.int .i64 u) ∧ (k = 0 → u = x) ∧ (k = 1 → u = y) ∧ (k = 2 → u = z) := by
  obtain ⟨h0, h1, h2⟩ := h
  rcases (by omega : k = 0 ∨ k = 1 ∨ k = 2) with rfl | rfl | rfl
  · exact ⟨x, h0, fun _ => rfl, by omega, by omega⟩
  · exact ⟨y, h1, by omega, fun _ => rfl, by omega⟩
  · exact ⟨z, h2, by omega, by omega, fun _ => rfl⟩
set_option maxRecDepth 100000 in
set_option maxHeartbeats 1600000 in
theorem or_any (w : World) (b : Nat) (x y z : Int) (h : IntsO w b 0 x y z) :
    Calls Tryz.prog 79 #[.slice (some ⟨b, 0, none⟩) 3 3] w fun e w' => e = .returned (.int .i64 (or3 x y z)) ∧ Kept (fun _ => False) w w' := by
  have H := Lib.hid h
  clear h
  go_enter Tryz.func79, Tryz.ntmps79
  go_wp2_with fail
  go_loopw [8] (fun i wr => ∃ k : Nat, k ≤ 3 ∧ i = .int .i64 (k : Int) ∧ wr = w ∧ Hid ((0 < k → x = 0) ∧ (1 < k → y = 0) ∧ (2 < k → z = 0))) (fun i _ => 3 - (intOf i).toNat)
  case atStart => exact ⟨0, by omega, rfl, rfl, Lib.hid ⟨by omega, by omega, by omega⟩⟩
  case round =>
    obtain ⟨k, hk, rfl, rfl, HS⟩ := hrel
    by_cases hlt : k < 3
    · obtain ⟨u, c, u0, u1, u2⟩ := ints_step H.out hlt
      have HU := Lib.hid (And.intro u0 (And.intro u1 u2))
      have ed : decide ((k : Int) < 3) = true := by simp; omega
      have ee : decide (3 ≤ (k : Int)) = false := by simp; omega
      rw [Nat.zero_add] at c
      clear u0 u1 u2
      by_cases g : u = 0
      · subst g
        go_wp2_with fail
        go_roundw
        case measure => simp [intOf]; omega
        case rel =>
          refine ⟨k + 1, by omega, by go_num, by trivial, Lib.hid ?_⟩
          obtain ⟨s0, s1, s2⟩ := HS.out
          obtain ⟨u0, u1, u2⟩ := HU.out
          refine ⟨fun _ => ?_, fun _ => ?_, fun _ => ?_⟩
          · by_cases h : k = 0
            · exact (u0 h).symm
            · exact s0 (by omega)
          · by_cases h : k = 1
            · exact (u1 h).symm
            · exact s1 (by omega)
          · by_cases h : k = 2
            · exact (u2 h).symm
            · exact s2 (by omega)
      · have e0 : (u != 0) = true := by simpa using g
        have hr : Hid (u = or3 x y z) := Lib.hid (by
          obtain ⟨s0, s1, s2⟩ := HS.out
          obtain ⟨u0, u1, u2⟩ := HU.out
          unfold or3
          rcases (by omega : k = 0 ∨ k = 1 ∨ k = 2) with h | h | h
          · have := u0 h
            rw [if_neg (by rw [← this]; exact g)]; exact this
          · have := u1 h
            rw [if_pos (s0 (by omega)), if_neg (by rw [← this]; exact g)]; exact this
          · have := u2 h
            rw [if_pos (s0 (by omega)), if_pos (s1 (by omega))]; exact this)
        clear g
        go_wp2_with fail
        go_ret
        exact ⟨reti hr.out, Kept.refl _ _⟩
    · obtain rfl : k = 3 := by omega
      go_wp2_with fail
      go_ret
      refine ⟨reti ?_, Kept.refl _ _⟩
      obtain ⟨s0, s1, s2⟩ := HS.out
      unfold or3
      rw [if_pos (s0 (by omega)), if_pos (s1 (by omega)), s2 (by omega)]
def IntsAtO (w : World) (b o : Nat) (x : PWt) : Prop := IntsO w b o (x.a : Int) (x.b : Int) (x.c : Int)
theorem cmpo_step {w : World} {b1 o1 b2 o2 : Nat} {x y : PWt} {n : Nat} (h1 : IntsAtO w b1 o1 x) (h2 : IntsAtO w b2 o2 y) (hx : x.low n) (hy : y.low n) {k : Nat} (hk : k < 3) (hs : Same3 x y k) :
    ∃ u v : Nat, w.cell? ⟨b1, o1 + k, none⟩ = some (.int .i64 (u : Int)) ∧ w.cell? ⟨b2, o2 + k, none⟩ = some (.int .i64 (v : Int)) ∧ u ≤ n ∧ v ≤ n ∧ (u < v → wLt y x = false ∧ wLt x y = true) ∧ (v < u → wLt y x = true) ∧ (u = v → Same3 x y (k + 1)) := by
  obtain ⟨p0, p1, p2⟩ := h1
  obtain ⟨q0, q1, q2⟩ := h2
  obtain ⟨l0, l1, l2⟩ := hx
  obtain ⟨m0, m1, m2⟩ := hy
  obtain ⟨s0, s1, s2⟩ := hs
  rcases (by omega : k = 0 ∨ k = 1 ∨ k = 2) with rfl | rfl | rfl
  · refine ⟨_, _, p0, q0, l0, m0, fun h => ?_, fun h => ?_, fun h => ⟨fun _ => h, by omega, by omega⟩⟩
    · constructor <;> (simp [wLt]; omega)
    · simp [wLt]; omega
  · have e0 := s0 (by omega)
    refine ⟨_, _, p1, q1, l1, m1, fun h => ?_, fun h => ?_, fun h => ⟨fun _ => e0, fun _ => h, by omega⟩⟩
    · constructor <;> (simp [wLt]; omega)
    · simp [wLt]; omega
  · have e0 := s0 (by omega)
    have e1 := s1 (by omega)
    refine ⟨_, _, p2, q2, l2, m2, fun h => ?_, fun h => ?_, fun h => ⟨fun _ => e0, fun _ => e1, fun _ => h⟩⟩
    · constructor <;> (simp [wLt]; omega)
    · simp [wLt]; omega
set_option maxRecDepth 100000 in
set_option maxHeartbeats 1600000 in
theorem compareo_any (w : World) (b1 o1 b2 o2 : Nat) (x y : PWt) (h1 : IntsAtO w b1 o1 x) (h2 : IntsAtO w b2 o2 y) (hx : x.low 1048576) (hy : y.low 1048576) :
    Calls Tryz.prog 81 #[.slice (some ⟨b1, o1, none⟩) 3 3, .slice (some ⟨b2, o2, none⟩) 3 3] w fun e w' => e = .returned (.int .i64 (cmp3 x y)) ∧ w' = w := by
  have H1 := Lib.hid h1
  have H2 := Lib.hid h2
  have HX := Lib.hid hx
  have HY := Lib.hid hy
  clear h1 h2 hx hy
  go_enter Tryz.func81, Tryz.ntmps81
  go_wp2_with fail
  go_loopw [11] (fun i wr => ∃ k : Nat, k ≤ 3 ∧ i = .int .i64 k ∧ wr = w ∧ Hid (Same3 x y k)) (fun i _ => 3 - (intOf i).toNat)
  case atStart => exact ⟨0, by omega, rfl, rfl, Lib.hid ⟨by omega, by omega, by omega⟩⟩
  case round =>
    obtain ⟨k, hk, rfl, rfl, HS⟩ := hrel
    by_cases hlt : k < 3
    · obtain ⟨u, v, c1, c2, hu, hv, hA, hB, hC⟩ := cmpo_step H1.out H2.out HX.out HY.out hlt HS.out
      have HA := Lib.hid hA
      have HB := Lib.hid hB
      have HC := Lib.hid hC
      clear hA hB hC
      have HK := Lib.hid (Tryz.cmp_Compare_int (u : Int) (v : Int) wr)
      have ed : decide ((k : Int) < 3) = true := by simp; omega
      have ee : decide (3 ≤ (k : Int)) = false := by simp; omega
      by_cases g1 : u < v
      · have e1 : Lib.compareInt (u : Int) (v : Int) = -1 := by unfold Lib.compareInt; rw [if_pos (by omega)]
        rw [e1] at HK
        clear e1
        go_wp2_with (go_at_call 80; refine HK.out.mono ?_; rintro e w2 ⟨rfl, rfl⟩)
        go_ret
        exact ⟨by unfold cmp3; rw [(HA.out g1).1, (HA.out g1).2]; rfl, rfl⟩
      · by_cases g2 : v < u
        · have e1 : Lib.compareInt (u : Int) (v : Int) = 1 := by unfold Lib.compareInt; rw [if_neg (by omega), if_pos (by omega)]
          rw [e1] at HK
          clear e1
          go_wp2_with (go_at_call 80; refine HK.out.mono ?_; rintro e w2 ⟨rfl, rfl⟩)
          go_ret
          exact ⟨by unfold cmp3; rw [HB.out g2]; rfl, rfl⟩
        · have e1 : Lib.compareInt (u : Int) (v : Int) = 0 := by unfold Lib.compareInt; rw [if_neg (by omega), if_neg (by omega)]
          rw [e1] at HK
          clear e1
          go_wp2_with (go_at_call 80; refine HK.out.mono ?_; rintro e w2 ⟨rfl, rfl⟩)
          go_roundw
          case measure => simp [intOf]; omega
          case rel => exact ⟨k + 1, by omega, by go_num, trivial, Lib.hid (HC.out (by omega))⟩
    · obtain rfl : k = 3 := by omega
      go_wp2_with fail
      go_ret
      refine ⟨?_, rfl⟩
      obtain ⟨s0, s1, s2⟩ := HS.out
      obtain ⟨xa, xb, xc⟩ := x
      obtain ⟨ya, yb, yc⟩ := y
      have h1 := s0 (by omega)
      have h2 := s1 (by omega)
      have h3 := s2 (by omega)
      simp only at h1 h2 h3
      subst h1; subst h2; subst h3
      simp [cmp3, wLt]
def claimCells (c : PClaim) : List Value := [.string (str c.d.name), .string (str c.d.val), .bool c.d.strong, .bool c.own, .int .i64 (c.w.a : Int), .int .i64 (c.w.b : Int), .int .i64 (c.w.c : Int)]
def ClaimAt (w : World) (b o : Nat) (c : PClaim) : Prop := ∀ j v, (claimCells c)[j]? = some v → w.cell? ⟨b, o + j, none⟩ = some v
theorem ClaimAt.kept {w w' : World} {b o : Nat} {c : PClaim} {S : Nat → Prop} (h : ClaimAt w b o c) (hk : Kept S w w') (hs : ¬ S b) : ClaimAt w' b o c := fun j v hj => hk.cell hs (h j v hj)
def ordI (x y : PClaim) : Int := or3 (Lib.compareInt (flagI x.d.strong) (flagI y.d.strong)) (Lib.compareInt (flagI x.own) (flagI y.own)) (cmp3 x.w y.w)
theorem ord_beats (x y : PClaim) : 0 ≤ ordI x y ↔ beats x y = true := by
  obtain ⟨⟨_, _, s1⟩, o1, w1⟩ := x
  obtain ⟨⟨_, _, s2⟩, o2, w2⟩ := y
  unfold ordI or3 beats cmp3 Lib.compareInt flagI
  simp only
  cases hA : wLt w2 w1 with
  | true =>
    have hB := wLt_asymm hA
    cases s1 <;> cases s2 <;> cases o1 <;> cases o2 <;> simp [hB]
  | false =>
    cases hB : wLt w1 w2 <;> cases s1 <;> cases s2 <;> cases o1 <;> cases o2 <;> simp
set_option maxRecDepth 100000 in
set_option maxHeartbeats 3200000 in
theorem order_any (w : World) (b1 o1 b2 o2 : Nat) (x y : PClaim) (h1 : ClaimAt w b1 o1 x) (h2 : ClaimAt w b2 o2 y) (hx : x.w.low 1048576) (hy : y.w.low 1048576) :
    Calls Tryz.prog 47 #[.pointer (some ⟨b1, o1, none⟩), .pointer (some ⟨b2, o2, none⟩)] w fun e w' => e = .returned (.int .i64 (ordI x y)) ∧ Kept (fun _ => False) w w' := by
  have x2 : w.cell? ⟨b1, o1 + 2, none⟩ = some (.bool x.d.strong) := h1 2 _ rfl
  have x3 : w.cell? ⟨b1, o1 + 3, none⟩ = some (.bool x.own) := h1 3 _ rfl
  have y2 : w.cell? ⟨b2, o2 + 2, none⟩ = some (.bool y.d.strong) := h2 2 _ rfl
  have y3 : w.cell? ⟨b2, o2 + 3, none⟩ = some (.bool y.own) := h2 3 _ rfl
  have HXI : Hid (IntsAtO w b1 (o1 + 4) x.w) := Lib.hid ⟨h1 4 _ rfl, h1 5 _ rfl, h1 6 _ rfl⟩
  have HYI : Hid (IntsAtO w b2 (o2 + 4) y.w) := Lib.hid ⟨h2 4 _ rfl, h2 5 _ rfl, h2 6 _ rfl⟩
  obtain ⟨r, HR⟩ : ∃ r, Hid (ordI x y = r) := ⟨_, rfl⟩
  rw [HR.out]
  have HX := Lib.hid hx
  have HY := Lib.hid hy
  clear h1 h2 hx hy
  go_enter Tryz.func47, Tryz.ntmps47
  go_upto_region 2 with fail
  go_region_held3 (fun w' => w'.cell? ⟨b1, o1 + 2, none⟩ = some (.bool x.d.strong) ∧ w'.cell? ⟨b1, o1 + 3, none⟩ = some (.bool x.own) ∧ w'.cell? ⟨b2, o2 + 2, none⟩ = some (.bool y.d.strong) ∧ w'.cell? ⟨b2, o2 + 3, none⟩ = some (.bool y.own)) (first | exact ⟨hk8.cell id (cell_alloc x2 _), hk8.cell id (cell_alloc x3 _), hk8.cell id (cell_alloc y2 _), hk8.cell id (cell_alloc y3 _)⟩ | exact ⟨x2, x3, y2, y3⟩ | exact ⟨cell_alloc x2 _, cell_alloc x3 _, cell_alloc y2 _, cell_alloc y3 _⟩ | go_keep)
    ((first
      | (go_at_call 78; refine (flag_any _ _).mono ?_; rintro e w5 ⟨rfl, rfl⟩)
      | (go_at_call 80; refine (Tryz.cmp_Compare_int _ _ _).mono ?_; rintro e w6 ⟨rfl, rfl⟩)
      | (go_at_call 81; refine (compareo_any _ _ _ _ _ x.w y.w (by exact HXI.out) (by exact HYI.out) HX.out HY.out).mono ?_; rintro e w7 ⟨rfl, rfl⟩)
      | (go_at_call 79; refine (or_any _ _ (Lib.compareInt (flagI x.d.strong) (flagI y.d.strong)) (Lib.compareInt (flagI x.own) (flagI y.own)) (cmp3 x.w y.w) (ints_new w _ _ _)).mono ?_; rintro e w8 ⟨rfl, hk8⟩)))
  all_goals
    go_wp2_with fail
    go_ret
    exact ⟨reti HR.out, (((Kept.refl _ w).alloc _).drew).trans hk8⟩
set_option maxRecDepth 100000 in
theorem counts_any (w : World) (b o : Nat) (r : PRule) (mv : Value) (media : List B) (h : w.cell? ⟨b, o, none⟩ = some (.string (str r.media))) (hm : StrsAt w mv media) :
    Calls Tryz.prog 77 #[.pointer (some ⟨b, o, none⟩), mv] w fun e w' => e = .returned (.bool (counts r media)) ∧ Kept (fun _ => False) w w' := by
  obtain ⟨q, HQ⟩ : ∃ q, Hid (counts r media = q) := ⟨_, rfl⟩
  rw [HQ.out]
  cases he : r.media.isEmpty with
  | true =>
    have hr : Hid (true = q) := Lib.hid (by rw [← HQ.out]; unfold counts; rw [he]; rfl)
    have e1 : (r.media == []) = true := by simpa using he
    clear he
    go_enter Tryz.func77, Tryz.ntmps77
    go_wp2_with fail
    go_ret
    exact ⟨retb hr.out, Kept.refl _ _⟩
  | false =>
    have hr : media.contains r.media = q := by rw [← HQ.out]; unfold counts; rw [he]; simp
    have e1 : (r.media == []) = false := by simpa using he
    have HC := contains_reads w mv media r.media hm
    rw [hr] at HC
    replace HC := Lib.hid HC
    clear he hr
    go_enter Tryz.func77, Tryz.ntmps77
    go_wp2_with (go_at_call 102; refine HC.out.mono ?_; rintro e w2 ⟨rfl, hk2⟩)
    go_ret
    exact ⟨rfl, hk2⟩
end Go.Proofs.YtplbdlgmjehckadGreatDoor

