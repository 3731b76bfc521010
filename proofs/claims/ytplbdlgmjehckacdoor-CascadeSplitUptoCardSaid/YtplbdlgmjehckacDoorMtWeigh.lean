/-
  match.Matches, match.Weigh.
-/
import Derived.Test.YtplbdlgmjehckacDoorMtAt
import Derived.Test.YtplbdlgmjehckacDoorMtLaws
namespace Go.Proofs.YtplbdlgmjehckacDoor
open Go.RowKit
set_option linter.unusedVariables false
set_option linter.unusedSimpArgs false

set_option maxRecDepth 100000 in
set_option maxHeartbeats 1600000 in
theorem matches_any (ns : List PNode) (hns : MtCtx ns) (s : PSel) (m : Int) (w : World) (v sv : Value) (k : Int) (hv : NodesAt w v ns) (hp : PartsAt w sv s) (hk : -9223372036854775808 ≤ k ∧ k ≤ 9223372036854775807) (hm : w.cell? ⟨0, 0, none⟩ = some (.int .i64 m)) :
    Calls Tryd.prog 31 #[v, .int .i64 k, sv] w (AtEnds w (mMatches ns k s)) := by
  obtain ⟨r, HR⟩ : ∃ r, Hid (mMatches ns k s = r) := ⟨_, rfl⟩
  rw [HR.out]
  obtain ⟨na, ncap, rfl, hnc1, hnc2⟩ := hv.form
  obtain ⟨pa, pcap, rfl, hpc1, hpc2⟩ := NestAt.form hp
  unfold maxLen at hnc2 hpc2
  have hfew := hns.few
  by_cases hs0 : s = []
  · have hl0 : List.length s = 0 := by simp [hs0]
    have hr : Hid (false = r) := Lib.hid (by rw [← HR.out, hs0]; rfl)
    rw [hl0]
    clear hl0 hv hp
    go_enter Tryd.func31, Tryd.ntmps31
    go_wp2_with fail
    go_ret
    exact ⟨retb hr.out, Kept.refl _ _⟩
  · have hl0 : 0 < List.length s := List.length_pos_iff.2 hs0
    have hR : Hid (mAt ns s.reverse k = r) := Lib.hid (by
      rw [← HR.out]; unfold mMatches
      rw [show s.isEmpty = false from by simpa using hs0]; rfl)
    by_cases h0 : k < 0
    · have hr : Hid (false = r) := Lib.hid (by
        rw [← hR.out]
        cases h : mAt ns s.reverse k with
        | false => rfl
        | true => have := mAt_inR h; simp [inR] at this; omega)
      clear hv hp
      go_enter Tryd.func31, Tryd.ntmps31
      go_wp2_with fail
      go_ret
      exact ⟨retb hr.out, Kept.refl _ _⟩
    · by_cases h1 : (ns.length : Int) ≤ k
      · have hr : Hid (false = r) := Lib.hid (by
          rw [← hR.out]
          cases h : mAt ns s.reverse k with
          | false => rfl
          | true => have := mAt_inR h; simp [inR] at this; omega)
        clear hv hp
        go_enter Tryd.func31, Tryd.ntmps31
        go_wp2_with fail
        go_ret
        exact ⟨retb hr.out, Kept.refl _ _⟩
      · have HC := Lib.hid (at_any ns hns s m (List.length s) (by omega) (Nat.le_refl _) w _ _ k hv hp hk hm)
        rw [List.take_length, hR.out] at HC
        clear hv hp
        go_enter Tryd.func31, Tryd.ntmps31
        go_wp2_with (go_at_call 50; refine HC.out.mono ?_; rintro e w3 ⟨rfl, hk3⟩)
        go_ret
        exact ⟨rfl, hk3⟩

/-! ### the weight of a selector -/
def nTests (s : PSel) : Nat := (s.map fun p => p.tests.length).sum
def wtVal (x : PWt) : Value := .agg #[.int .i64 (x.a : Int), .int .i64 (x.b : Int), .int .i64 (x.c : Int)]
def WtAt (w : World) (c : Nat) (x : PWt) : Prop := w.heap[c]? = some (.cells #[.int .i64 (x.a : Int), .int .i64 (x.b : Int), .int .i64 (x.c : Int)] 57 (0, 0))
def PWt.low (x : PWt) (n : Nat) : Prop := x.a ≤ n ∧ x.b ≤ n ∧ x.c ≤ n
theorem wTest_low {x : PWt} {n : Nat} (h : x.low n) (t : PTest) : (wTest x t).low (n + 1) := by
  obtain ⟨h1, h2, h3⟩ := h
  unfold wTest
  split
  · exact ⟨by simp; omega, by simp; omega, by simp; omega⟩
  · split
    · exact ⟨by simp; omega, by simp; omega, by simp; omega⟩
    · split
      · exact ⟨by simp; omega, by simp; omega, by simp; omega⟩
      · exact ⟨by omega, by omega, by omega⟩
theorem nTests_take (s : PSel) (i : Nat) {p : PPart} (h : s[i]? = some p) : nTests (s.take (i + 1)) = nTests (s.take i) + p.tests.length := by
  unfold nTests
  rw [List.take_add_one, h, Option.toList_some, List.map_append, List.sum_append]
  simp
theorem nTests_le (s : PSel) (i : Nat) : nTests (s.take i) ≤ nTests s := by
  unfold nTests
  conv => rhs; rw [← List.take_append_drop i s, List.map_append, List.sum_append]
  omega
/-- the weight so far: in the call's second block; the first one is for what is answered -/
structure WLp (w wr : World) (x : PWt) (n : Nat) : Prop where
  at_ : WtAt wr (w.heap.size + 1) x
  res : WtAt wr w.heap.size ⟨0, 0, 0⟩
  kept : Kept (fun _ => False) w wr
  low : x.low n
theorem WLp.alloc {w wr : World} {x : PWt} {n : Nat} (h : WLp w wr x n) (o : Obj) : WLp w (wr.alloc o) x n := ⟨oldIn h.at_ o, oldIn h.res o, h.kept.alloc o, h.low⟩
theorem WLp.cell {w wr : World} {x : PWt} {n : Nat} (h : WLp w wr x n) : wr.cell? ⟨w.heap.size + 1, 0, none⟩ = some (.int .i64 (x.a : Int)) ∧ wr.cell? ⟨w.heap.size + 1, 1, none⟩ = some (.int .i64 (x.b : Int)) ∧ wr.cell? ⟨w.heap.size + 1, 2, none⟩ = some (.int .i64 (x.c : Int)) :=
  ⟨cellIn h.at_ 0 rfl, cellIn h.at_ 1 rfl, cellIn h.at_ 2 rfl⟩
theorem WLp.put {w wr : World} {x y : PWt} {n m : Nat} (h : WLp w wr x n) (j : Nat) (z : Int) (hy : (#[Value.int .i64 (x.a : Int), .int .i64 (x.b : Int), .int .i64 (x.c : Int)]).setIfInBounds j (.int .i64 z) = #[.int .i64 (y.a : Int), .int .i64 (y.b : Int), .int .i64 (y.c : Int)]) (hl : y.low m) :
    WLp w (wr.setCell ⟨w.heap.size + 1, j, none⟩ (.int .i64 z)) y m := by
  refine ⟨?_, otherIn h.res _ _ (by show w.heap.size ≠ w.heap.size + 1; omega), h.kept.setCell (p := ⟨w.heap.size + 1, j, none⟩) (.inr (by show w.heap.size ≤ w.heap.size + 1; omega)) _, hl⟩
  have := setIn h.at_ j (.int .i64 z)
  rw [hy] at this
  exact this
theorem low_mono {x : PWt} {n m : Nat} (h : x.low n) (hn : n ≤ m) : x.low m := ⟨Nat.le_trans h.1 hn, Nat.le_trans h.2.1 hn, Nat.le_trans h.2.2 hn⟩

set_option maxRecDepth 100000 in
set_option maxHeartbeats 3200000 in
theorem weigh_any (s : PSel) (w : World) (sv : Value) (hp : PartsAt w sv s) (hn : nTests s ≤ 1048576) :
    Calls Tryd.prog 32 #[sv] w fun e w' => e = .returned (wtVal (mWeigh s)) ∧ Kept (fun _ => False) w w' := by
  obtain ⟨pa, pcap, rfl, hpc1, hpc2⟩ := NestAt.form hp
  unfold maxLen at hpc2
  have HP := Lib.hid hp
  have HN := Lib.hid hn
  clear hp hn
  have hw0 : WLp w ((w.alloc (.cells #[.int .i64 0, .int .i64 0, .int .i64 0] 57 (0, 0))).alloc (.cells #[.int .i64 0, .int .i64 0, .int .i64 0] 57 (0, 0))) ⟨0, 0, 0⟩ 0 := by
    refine ⟨?_, oldIn (newIn w _) _, ((Kept.refl _ w).alloc _).alloc _, Nat.le_refl _, Nat.le_refl _, Nat.le_refl _⟩
    have := newIn (w.alloc (.cells #[.int .i64 0, .int .i64 0, .int .i64 0] 57 (0, 0))) (.cells #[.int .i64 0, .int .i64 0, .int .i64 0] 57 (0, 0))
    simpa [WtAt] using this
  have HW0 := Lib.hid hw0
  clear hw0
  go_enter Tryd.func32, Tryd.ntmps32
  go_wp2_with fail
  go_loopw [10] (fun i wr => ∃ (k : Nat) (x : PWt), k ≤ List.length s ∧ i = .int .i64 k ∧ Hid (WLp w wr x (nTests (s.take k))) ∧ Hid ((s.take k).foldl wPart ⟨0, 0, 0⟩ = x)) (fun i _ => List.length s - (intOf i).toNat)
  case atStart => exact ⟨0, ⟨0, 0, 0⟩, by omega, rfl, HW0, Lib.hid rfl⟩
  case round =>
    obtain ⟨i, x0, hi, rfl, HL, HX0⟩ := hrel
    obtain ⟨wr0, hwr0⟩ : ∃ x, x = wr := ⟨_, rfl⟩
    subst hwr0
    by_cases hlt : i < List.length s
    · have hx := List.getElem?_eq_getElem hlt
      generalize hgx : s[i] = p at hx
      clear hgx
      obtain ⟨pb, po, tv, rfl, hpc, hpt⟩ := NestAt.at HP.out hx
      have p0 : wr0.cell? ⟨pb, po + i * 2, none⟩ = some (.int .i64 p.join) := HL.out.kept.cell id (hpc 0 _ rfl)
      have p1 : wr0.cell? ⟨pb, po + i * 2 + 1, none⟩ = some tv := HL.out.kept.cell id (hpc 1 _ rfl)
      obtain ⟨ta, tc, rfl, htc1, htc2⟩ := TestsAt.form hpt
      unfold maxLen at htc2
      have hnt := nTests_take s i hx
      have hnl := nTests_le s (i + 1)
      have HNT := Lib.hid hnt
      have hbase : Hid (nTests (s.take i) + p.tests.length ≤ 1048576) := Lib.hid (by have := HN.out; omega)
      have HX := Lib.hid hx
      have HPT := Lib.hid hpt
      clear hx hpc hpt hnt hnl
      go_upto_region 5 with fail
      obtain ⟨wa, HWA⟩ : ∃ x', Hid (wr0.alloc (.cells #[.int .i64 p.join, .slice ta p.tests.length tc] 73 (0, 0)) = x') := ⟨_, rfl⟩
      have c1 : wa.cell? ⟨wr0.heap.size, 1, none⟩ = some (.slice ta p.tests.length tc) := by rw [← HWA.out]; exact cellIn (newIn wr0 _) 1 rfl
      have HLA : Hid (WLp w wa x0 (nTests (s.take i))) := Lib.hid (by rw [← HWA.out]; exact HL.out.alloc _)
      clear p0 p1
      rw [HWA.out]
      go_wp2_with fail
      go_loopw [17] (fun j wx => ∃ (l : Nat) (x : PWt), l ≤ p.tests.length ∧ j = .int .i64 l ∧ Hid (WLp w wx x (nTests (s.take i) + l)) ∧ Hid ((p.tests.take l).foldl wTest x0 = x)) (fun j _ => p.tests.length - (intOf j).toNat)
      case atStart => exact ⟨0, x0, by omega, rfl, HLA, Lib.hid rfl⟩
      case round =>
        obtain ⟨l, x, hl, rfl, HM, HXJ⟩ := hrel
        by_cases hlt2 : l < p.tests.length
        · have hy := List.getElem?_eq_getElem hlt2
          generalize hgy : p.tests[l] = t at hy
          clear hgy
          obtain ⟨tb, to_, rfl, t0, t1, t2⟩ := TestsAt.at (tests_firm.kept HPT.out HM.out.kept) hy
          have HY := Lib.hid hy
          clear hy
          go_upto_region 8 with fail
          obtain ⟨wb, HWB⟩ : ∃ x', Hid (wr.alloc (.cells #[.int .i64 t.kind, .string (str t.name), .string (str t.val)] 70 (0, 0)) = x') := ⟨_, rfl⟩
          have d0 : wb.cell? ⟨wr.heap.size, 0, none⟩ = some (.int .i64 t.kind) := by rw [← HWB.out]; exact cellIn (newIn wr _) 0 rfl
          have HMB : Hid (WLp w wb x (nTests (s.take i) + l)) := Lib.hid (by rw [← HWB.out]; exact HM.out.alloc _)
          obtain ⟨x1, x2, x3⟩ := HMB.out.cell
          have hlow := HMB.out.low
          obtain ⟨l1, l2, l3⟩ := hlow
          have hb1 := hbase.out
          have fz := freeIn HMB.out.at_
          have f0 := fz 0
          have f1 := fz 1
          have f2 := fz 2
          have hnx : Hid ((p.tests.take (l + 1)).foldl wTest x0 = wTest x t) := Lib.hid (by
            rw [List.take_add_one, HY.out, Option.toList_some, List.foldl_append, HXJ.out]; rfl)
          have hlw := Lib.hid (wTest_low HMB.out.low t)
          obtain ⟨xa, xb, xc⟩ := x
          simp only at x1 x2 x3 l1 l2 l3
          clear t0 t1 t2 fz
          rw [HWB.out]
          by_cases k3 : t.kind = 3
          · have e3 : (t.kind == 3) = true := by simp [k3]
            have hy : Hid (wTest ⟨xa, xb, xc⟩ t = ⟨xa + 1, xb, xc⟩) := Lib.hid (by simp [wTest, k3])
            rw [hy.out] at hnx hlw
            clear k3
            go_wp2_with fail
            go_roundw
            case measure => simp [intOf]; omega
            case rel => exact ⟨l + 1, _, by omega, by go_num, Lib.hid (HMB.out.put 0 _ (by simp) hlw.out), hnx⟩
          · have e3 : (t.kind == 3) = false := by simp [k3]
            by_cases k1 : t.kind = 1
            · have e1 : (t.kind == 1) = true := by simp [k1]
              have hy : Hid (wTest ⟨xa, xb, xc⟩ t = ⟨xa, xb, xc + 1⟩) := Lib.hid (by simp [wTest, k1])
              rw [hy.out] at hnx hlw
              clear k3 k1
              go_wp2_with fail
              go_roundw
              case measure => simp [intOf]; omega
              case rel => exact ⟨l + 1, _, by omega, by go_num, Lib.hid (HMB.out.put 2 _ (by simp) hlw.out), hnx⟩
            · have e1 : (t.kind == 1) = false := by simp [k1]
              by_cases k2 : t.kind = 2
              · have e2 : (t.kind == 2) = true := by simp [k2]
                have hy : Hid (wTest ⟨xa, xb, xc⟩ t = ⟨xa, xb + 1, xc⟩) := Lib.hid (by simp [wTest, k2])
                rw [hy.out] at hnx hlw
                clear k3 k1 k2
                go_wp2_with fail
                go_roundw
                case measure => simp [intOf]; omega
                case rel => exact ⟨l + 1, _, by omega, by go_num, Lib.hid (HMB.out.put 1 _ (by simp) hlw.out), hnx⟩
              · have e2 : (t.kind == 2) = false := by simp [k2]
                by_cases k4 : t.kind = 4
                · have e4 : (t.kind == 4) = true := by simp [k4]
                  have hy : Hid (wTest ⟨xa, xb, xc⟩ t = ⟨xa, xb + 1, xc⟩) := Lib.hid (by simp [wTest, k4])
                  rw [hy.out] at hnx hlw
                  clear k3 k1 k2 k4
                  go_wp2_with fail
                  go_roundw
                  case measure => simp [intOf]; omega
                  case rel => exact ⟨l + 1, _, by omega, by go_num, Lib.hid (HMB.out.put 1 _ (by simp) hlw.out), hnx⟩
                · have e4 : (t.kind == 4) = false := by simp [k4]
                  by_cases k5 : t.kind = 5
                  · have e5 : (t.kind == 5) = true := by simp [k5]
                    have hy : Hid (wTest ⟨xa, xb, xc⟩ t = ⟨xa, xb + 1, xc⟩) := Lib.hid (by simp [wTest, k5])
                    rw [hy.out] at hnx hlw
                    clear k3 k1 k2 k4 k5
                    go_wp2_with fail
                    go_roundw
                    case measure => simp [intOf]; omega
                    case rel => exact ⟨l + 1, _, by omega, by go_num, Lib.hid (HMB.out.put 1 _ (by simp) hlw.out), hnx⟩
                  · have e5 : (t.kind == 5) = false := by simp [k5]
                    by_cases k6 : t.kind = 6
                    · have e6 : (t.kind == 6) = true := by simp [k6]
                      have hy : Hid (wTest ⟨xa, xb, xc⟩ t = ⟨xa, xb + 1, xc⟩) := Lib.hid (by simp [wTest, k6])
                      rw [hy.out] at hnx hlw
                      clear k3 k1 k2 k4 k5 k6
                      go_wp2_with fail
                      go_roundw
                      case measure => simp [intOf]; omega
                      case rel => exact ⟨l + 1, _, by omega, by go_num, Lib.hid (HMB.out.put 1 _ (by simp) hlw.out), hnx⟩
                    · have e6 : (t.kind == 6) = false := by simp [k6]
                      have hy : Hid (wTest ⟨xa, xb, xc⟩ t = ⟨xa, xb, xc⟩) := Lib.hid (by simp [wTest, k3, k1, k2, k4, k5, k6])
                      clear k3 k1 k2 k4 k5 k6
                      rw [hy.out] at hnx hlw
                      go_wp2_with fail
                      go_roundw
                      case measure => simp [intOf]; omega
                      case rel => exact ⟨l + 1, _, by omega, by go_num, Lib.hid ⟨HMB.out.at_, HMB.out.res, HMB.out.kept, hlw.out⟩, hnx⟩
        · obtain rfl : l = p.tests.length := by omega
          go_wp2_with fail
          go_roundw
          case measure => simp [intOf]; omega
          case rel =>
            refine ⟨i + 1, x, by omega, by go_num, Lib.hid ?_, Lib.hid ?_⟩
            · rw [HNT.out]; exact HM.out
            · rw [List.take_add_one, HX.out, Option.toList_some, List.foldl_append, HX0.out]
              have := HXJ.out
              rw [List.take_length] at this
              exact this
    · obtain rfl : i = List.length s := by omega
      obtain ⟨x1, x2, x3⟩ := HL.out.cell
      have r0 := freeIn HL.out.res 0
      have r1 := freeIn HL.out.res 1
      have r2 := freeIn HL.out.res 2
      have q0 : wr0.cell? ⟨w.heap.size, 0, none⟩ = some (.int .i64 ((0 : Nat) : Int)) := cellIn HL.out.res 0 rfl
      have q1 : wr0.cell? ⟨w.heap.size, 1, none⟩ = some (.int .i64 ((0 : Nat) : Int)) := cellIn HL.out.res 1 rfl
      have q2 : wr0.cell? ⟨w.heap.size, 2, none⟩ = some (.int .i64 ((0 : Nat) : Int)) := cellIn HL.out.res 2 rfl
      have hfin : Hid (mWeigh s = x0) := Lib.hid (by have := HX0.out; rw [List.take_length] at this; exact this)
      go_wp2_with fail
      have hz : (((wr0.setCell ⟨w.heap.size, 0, none⟩ (.int .i64 (x0.a : Int))).setCell ⟨w.heap.size, 1, none⟩ (.int .i64 (x0.b : Int))).setCell ⟨w.heap.size, 2, none⟩ (.int .i64 (x0.c : Int))).heap[w.heap.size]? = some (.cells #[.int .i64 (x0.a : Int), .int .i64 (x0.b : Int), .int .i64 (x0.c : Int)] 57 (0, 0)) := by
        have := setIn (setIn (setIn HL.out.res 0 (.int .i64 (x0.a : Int))) 1 (.int .i64 (x0.b : Int))) 2 (.int .i64 (x0.c : Int))
        simpa using this
      have kz : Kept (fun _ => False) w (((wr0.setCell ⟨w.heap.size, 0, none⟩ (.int .i64 (x0.a : Int))).setCell ⟨w.heap.size, 1, none⟩ (.int .i64 (x0.b : Int))).setCell ⟨w.heap.size, 2, none⟩ (.int .i64 (x0.c : Int))) := ((HL.out.kept.setCell (p := ⟨w.heap.size, 0, none⟩) (.inr (Nat.le_refl _)) _).setCell (p := ⟨w.heap.size, 1, none⟩) (.inr (Nat.le_refl _)) _).setCell (p := ⟨w.heap.size, 2, none⟩) (.inr (Nat.le_refl _)) _
      generalize (((wr0.setCell ⟨w.heap.size, 0, none⟩ (.int .i64 (x0.a : Int))).setCell ⟨w.heap.size, 1, none⟩ (.int .i64 (x0.b : Int))).setCell ⟨w.heap.size, 2, none⟩ (.int .i64 (x0.c : Int))) = wz at *
      have z0 : wz.cell? ⟨w.heap.size, 0, none⟩ = some (.int .i64 (x0.a : Int)) := cellIn hz 0 rfl
      have z1 : wz.cell? ⟨w.heap.size, 1, none⟩ = some (.int .i64 (x0.b : Int)) := cellIn hz 1 rfl
      have z2 : wz.cell? ⟨w.heap.size, 2, none⟩ = some (.int .i64 (x0.c : Int)) := cellIn hz 2 rfl
      refine bodyPost_ret (v := wtVal x0) (by simp [results, Tryd.results32, go_sem, z0, z1, z2, wtVal]) rfl ?_
      rw [hfin.out]
      exact ⟨rfl, kz⟩
end Go.Proofs.YtplbdlgmjehckacDoor
