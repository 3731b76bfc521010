/-
  inkref3.Best.
-/
import Derived.Test.YtplbdlgmjehckaaDoorR3Means
import Derived.Test.YtplbdlgmjehckaaDoorR3Weigh
import Derived.Test.YtplbdlgmjehckaaDoorMtBest
import Derived.Test.YtplbdlgmjehckaaDoorMtLess
namespace Go.Proofs.YtplbdlgmjehckaaDoor
open Go.RowKit
set_option linter.unusedVariables false
set_option linter.unusedSimpArgs false

set_option maxRecDepth 100000 in
set_option maxHeartbeats 3200000 in
theorem rbest_any (ns : List PNode) (hns : MtCtx ns) (r : PRule) (u : Value) (m : Int) (w : World) (v : Value) (k : Int) (hv : NodesAt w v ns) (hr : RuleAt w u r) (hf : FewTests r.sels) (hk : -9223372036854775808 ≤ k ∧ k ≤ 9223372036854775807) (hm : w.cell? ⟨0, 0, none⟩ = some (.int .i64 m)) :
    Calls Tryd.prog 26 #[v, .int .i64 k, ruleVal r u] w (BestEnds w (mBest ns k r.sels)) := by
  obtain ⟨sv, dv, rfl, hs, hd⟩ := hr
  obtain ⟨na, ncap, rfl, hnc1, hnc2⟩ := hv.form
  unfold maxLen at hnc2
  have hnsf := hns.few
  obtain ⟨sa, scap, rfl, hsc1, hsc2⟩ := NestAt.form hs
  obtain ⟨da, dcap, rfl, hdc1, hdc2⟩ := DeclsAt.form hd
  unfold maxLen at hsc2 hdc2
  have hfew := hf.1
  have HV := Lib.hid hv
  have HSL := Lib.hid hs
  have HF := Lib.hid hf.2
  have HM := Lib.hid hm
  have HK := Lib.hid hk
  clear hv hs hd hf hm
  show Calls Tryd.prog 26 #[.slice na ns.length ncap, .int .i64 k, .agg #[.string (str r.media), .slice sa r.sels.length scap, .slice da r.decls.length dcap, .int .i64 r.lo, .int .i64 r.hi]] w _
  have hb0 : BLp w (((w.alloc (.cells #[.string (str r.media), .slice sa r.sels.length scap, .slice da r.decls.length dcap, .int .i64 r.lo, .int .i64 r.hi] 57 (0, 0))).alloc (.cells #[.int .i64 0, .int .i64 0, .int .i64 0] 47 (0, 0))).alloc (.cells #[.int .i64 0, .int .i64 0, .int .i64 0] 47 (0, 0))) (w.heap.size + 1) (⟨0, 0, 0⟩, false) := by
    refine ⟨?_, ?_, by omega, (((Kept.refl _ w).alloc _).alloc _).alloc _, Nat.zero_le _, Nat.zero_le _, Nat.zero_le _⟩
    · have := newIn ((w.alloc (.cells #[.string (str r.media), .slice sa r.sels.length scap, .slice da r.decls.length dcap, .int .i64 r.lo, .int .i64 r.hi] 57 (0, 0))).alloc (.cells #[.int .i64 0, .int .i64 0, .int .i64 0] 47 (0, 0))) (.cells #[.int .i64 0, .int .i64 0, .int .i64 0] 47 (0, 0))
      simpa [WtAt] using this
    · have := newIn (w.alloc (.cells #[.string (str r.media), .slice sa r.sels.length scap, .slice da r.decls.length dcap, .int .i64 r.lo, .int .i64 r.hi] 57 (0, 0))) (.cells #[.int .i64 0, .int .i64 0, .int .i64 0] 47 (0, 0))
      exact oldIn (by simpa [WtAt] using this) _
  have HB0 := Lib.hid hb0
  clear hb0
  go_enter Tryd.func26, Tryd.ntmps26
  go_wp2_with fail
  obtain ⟨i0, hi0, hz0, hz1, hz2⟩ := info_parts info_sel
  obtain ⟨j0, hj0, hy0, hy1, hy2⟩ := info_parts info_weight
  go_loopw [9, 15] (fun f i wr => ∃ (j : Nat) (acc : PWt × Bool), j ≤ List.length r.sels ∧ i = .int .i64 j ∧ f = .bool acc.2 ∧ Hid (BLp w wr (w.heap.size + 1) acc) ∧ Hid ((r.sels.take j).foldl (bestStep ns k) (⟨0, 0, 0⟩, false) = acc)) (fun _ i _ => List.length r.sels - (intOf i).toNat)
  case atStart => exact ⟨0, (⟨0, 0, 0⟩, false), by omega, rfl, rfl, HB0, Lib.hid rfl⟩
  case round =>
    obtain ⟨j, acc, hj, rfl, rfl, HL, HX0⟩ := hrel
    obtain ⟨wr0, hwr0⟩ : ∃ x, x = wr := ⟨_, rfl⟩
    subst hwr0
    by_cases hlt : j < List.length r.sels
    · have hx := List.getElem?_eq_getElem hlt
      generalize hgx : r.sels[j] = s at hx
      clear hgx
      obtain ⟨pb, po, pv, rfl, hpc, hpt⟩ := NestAt.at HSL.out hx
      have p0 : wr0.cell? ⟨pb, po + j, none⟩ = some pv := HL.out.kept.cell id (by have := hpc 0 _ rfl; simpa using this)
      obtain ⟨pa, pc, rfl, hpc1, hpc2⟩ := NestAt.form hpt
      unfold maxLen at hpc2
      have HPT := Lib.hid (parts_firm.kept hpt HL.out.kept)
      have hnx : Hid ((r.sels.take (j + 1)).foldl (bestStep ns k) (⟨0, 0, 0⟩, false) = bestStep ns k acc s) := Lib.hid (by
        rw [List.take_add_one, hx, Option.toList_some, List.foldl_append, HX0.out]; rfl)
      have HNT := Lib.hid (HF.out s (List.mem_of_getElem? hx))
      obtain ⟨hit, HIT⟩ : ∃ x, Hid (mMatches ns k s = x) := ⟨_, rfl⟩
      clear hx hpc hpt
      have hmm : Hid ((!s.isEmpty && (inR ns k && mAt ns s.reverse k)) = hit) := Lib.hid (by
        rw [← HIT.out]; unfold mMatches
        cases hin : inR ns k with
        | true => simp
        | false => rw [mAt_out hin]; rfl)
      obtain ⟨⟨xa, xb, xc⟩, done⟩ := acc
      have hno : Hid (hit = false → bestStep ns k (⟨xa, xb, xc⟩, done) s = (⟨xa, xb, xc⟩, done)) := Lib.hid (fun h => by unfold bestStep; rw [HIT.out, h]; rfl)
      by_cases hk0 : k < 0
      · have hf : hit = false := by rw [← hmm.out]; have : inR ns k = false := by simp [inR]; omega
                                    rw [this]; simp
        rw [hno.out hf] at hnx
        clear hf
        go_wp2_with fail
        go_roundw
        case measure => simp [intOf]; omega
        case rel => exact ⟨j + 1, _, by omega, by go_num, by trivial, HL, hnx⟩
      · by_cases hk1 : (List.length ns : Int) ≤ k
        · have hf : hit = false := by rw [← hmm.out]; have : inR ns k = false := by simp [inR]; omega
                                      rw [this]; simp
          rw [hno.out hf] at hnx
          clear hf
          go_wp2_with fail
          go_roundw
          case measure => simp [intOf]; omega
          case rel => exact ⟨j + 1, _, by omega, by go_num, by trivial, HL, hnx⟩
        · by_cases hs0 : List.length s = 0
          · have hf : hit = false := by rw [← hmm.out, List.length_eq_zero_iff.1 hs0]; rfl
            have gz : ((List.length s : Int) == 0) = true := by simp [hs0]
            rw [hno.out hf] at hnx
            clear hf hs0
            go_wp2_with fail
            go_roundw
            case measure => simp [intOf]; omega
            case rel => exact ⟨j + 1, _, by omega, by go_num, by trivial, HL, hnx⟩
          · have gz : ((List.length s : Int) == 0) = false := by simp; exact fun h => hs0 (by rw [h]; rfl)
            obtain ⟨kn, HKN⟩ : ∃ n : Nat, Hid (k = (n : Int)) := ⟨k.toNat, Lib.hid (by omega)⟩
            have hkl : kn < ns.length := by have := HKN.out; omega
            have hsl : (List.length s : Int) - 1 = ((List.length s - 1 : Nat) : Int) := by omega
            have HMT := rmeans_any ns hns s (List.length s - 1) (by omega) wr0 _ _ kn hkl (nodes_firm.kept HV.out HL.out.kept) HPT.out
            rw [show List.length s - 1 + 1 = List.length s by omega, List.take_length, ← HKN.out] at HMT
            have hmt : mAt ns s.reverse k = hit := by
              rw [← hmm.out]
              have h1 : s.isEmpty = false := by rw [List.isEmpty_eq_false_iff]; intro h; rw [h] at hs0; exact hs0 rfl
              have h2 : inR ns k = true := by have := HKN.out; simp [inR]; omega
              rw [h1, h2]; simp
            rw [hmt] at HMT
            replace HMT := Lib.hid HMT
            clear hmt hs0
            cases hit with
            | false =>
              rw [hno.out rfl] at hnx
              go_wp2_with (go_at_call 37; refine HMT.out.mono ?_; rintro e w3 ⟨rfl, hk3⟩)
              go_roundw
              case measure => simp [intOf]; omega
              case rel => exact ⟨j + 1, _, by omega, by go_num, by trivial, Lib.hid (HL.out.kept_by hk3), hnx⟩
            | true =>
              obtain ⟨⟨ya, yb, yc⟩, HWY⟩ : ∃ x, Hid (mWeigh s = x) := ⟨_, rfl⟩
              have HYL : Hid (PWt.low ⟨ya, yb, yc⟩ 1048576) := Lib.hid (low_mono (by rw [← HWY.out]; exact weigh_low s) HNT.out)
              have hn2 : Hid (bestStep ns k (⟨xa, xb, xc⟩, done) s = if (!done || wLt ⟨xa, xb, xc⟩ ⟨ya, yb, yc⟩) = true then (⟨ya, yb, yc⟩, true) else (⟨xa, xb, xc⟩, done)) := Lib.hid (by unfold bestStep; rw [HIT.out, HWY.out]; simp)
              rw [hn2.out] at hnx
              clear hn2
              have HW : Hid (∀ (wz : World), Kept (fun _ => False) wr0 wz → Calls Tryd.prog 24 #[.slice pa s.length pc] wz fun e w' => e = .returned (.agg #[.int .i64 (ya : Int), .int .i64 (yb : Int), .int .i64 (yc : Int)]) ∧ Kept (fun _ => False) wz w') := Lib.hid fun wz hz => by
                have := rweigh_any s wz _ (parts_firm.kept HPT.out hz) HNT.out
                rw [HWY.out] at this
                exact this
              go_upto_region 7 with (go_at_call 37; refine HMT.out.mono ?_; rintro e w3 ⟨rfl, hk3⟩)
              have HK3 := Lib.hid hk3
              have HL3 := Lib.hid (HL.out.kept_by hk3)
              clear hk3 p0
              cases done with
              | false =>
                have hn2 : (if (!false || wLt ⟨xa, xb, xc⟩ ⟨ya, yb, yc⟩) = true then ((⟨ya, yb, yc⟩ : PWt), true) else ((⟨xa, xb, xc⟩ : PWt), false)) = (⟨ya, yb, yc⟩, true) := rfl
                rw [hn2] at hnx
                clear hn2
                go_wp2_with fail
                go_quiet (fail)
                go_upto_region 8 with fail
                obtain ⟨w4, HW4⟩ : ∃ z, Hid (w3.drewN nq = z) := ⟨_, rfl⟩
                rw [HW4.out]
                have k34 : Kept (fun _ => False) w3 w4 := by rw [← HW4.out]; exact (Kept.refl _ w3).drewN nq
                have HL4 := Lib.hid (HL3.out.kept_by k34)
                go_wp2_with fail
                refine (HW.out w4 (HK3.out.trans k34)).mono ?_
                rintro e w5 ⟨rfl, hk5⟩
                have HL5 := Lib.hid (HL4.out.kept_by hk5)
                have fz := freeIn HL5.out.at_
                have f0 := fz 0
                have f1 := fz 1
                have f2 := fz 2
                obtain ⟨z1, z2, z3⟩ := HL5.out.at_.ints
                clear fz
                go_wp2_with fail
                go_roundw
                case measure => simp [intOf]; omega
                case rel => exact ⟨j + 1, _, by omega, by go_num, by trivial, Lib.hid (HL5.out.put ya yb yc HYL.out true), hnx⟩
              | true =>
                obtain ⟨lt, HLT⟩ : ∃ b, Hid (wLt ⟨xa, xb, xc⟩ ⟨ya, yb, yc⟩ = b) := ⟨_, rfl⟩
                have HLS : Hid (∀ (wz : World), Calls Tryd.prog 27 #[.agg #[.int .i64 (xa : Int), .int .i64 (xb : Int), .int .i64 (xc : Int)], .agg #[.int .i64 (ya : Int), .int .i64 (yb : Int), .int .i64 (yc : Int)]] wz fun e w' => e = .returned (.bool lt) ∧ Kept (fun _ => False) wz w') := Lib.hid fun wz => by
                  have := less_any wz ⟨xa, xb, xc⟩ ⟨ya, yb, yc⟩ HL.out.low HYL.out
                  rw [HLT.out] at this
                  exact this
                obtain ⟨x1, x2, x3⟩ := HL3.out.at_.ints
                go_region_held3 (fun w' => w'.cell? ⟨w.heap.size + 1 + 1, 0, none⟩ = some (.int .i64 (xa : Int)) ∧ w'.cell? ⟨w.heap.size + 1 + 1, 1, none⟩ = some (.int .i64 (xb : Int)) ∧ w'.cell? ⟨w.heap.size + 1 + 1, 2, none⟩ = some (.int .i64 (xc : Int))) (first | exact ⟨hk6.cell id x1, hk6.cell id x2, hk6.cell id x3⟩ | exact ⟨hk5.cell id x1, hk5.cell id x2, hk5.cell id x3⟩ | go_keep)
                  ((first
                    | (go_at_call 24; refine (HW.out _ (by first | exact HK3.out.drew | exact HK3.out)).mono ?_; rintro e w5 ⟨rfl, hk5⟩; have hk5 : Kept (fun _ => False) w3 w5 := (Kept.refl _ w3).drew.trans hk5)
                    | (go_at_call 27; refine (HLS.out _).mono ?_; rintro e w6 ⟨rfl, hk6⟩; have hk6 : Kept (fun _ => False) w3 w6 := hk5.trans hk6)))
                cases lt with
                | true =>
                  have hn2 : (if (!true || wLt ⟨xa, xb, xc⟩ ⟨ya, yb, yc⟩) = true then ((⟨ya, yb, yc⟩ : PWt), true) else ((⟨xa, xb, xc⟩ : PWt), true)) = (⟨ya, yb, yc⟩, true) := by rw [HLT.out]; rfl
                  rw [hn2] at hnx
                  clear hn2
                  go_upto_region 8 with fail
                  have HL6 := Lib.hid (HL3.out.kept_by hk6)
                  go_wp2_with fail
                  refine (HW.out w6 (HK3.out.trans hk6)).mono ?_
                  rintro e w7 ⟨rfl, hk7⟩
                  have HL7 := Lib.hid (HL6.out.kept_by hk7)
                  have fz := freeIn HL7.out.at_
                  have f0 := fz 0
                  have f1 := fz 1
                  have f2 := fz 2
                  obtain ⟨z1, z2, z3⟩ := HL7.out.at_.ints
                  clear fz
                  go_wp2_with fail
                  go_roundw
                  case measure => simp [intOf]; omega
                  case rel => exact ⟨j + 1, _, by omega, by go_num, by trivial, Lib.hid (HL7.out.put ya yb yc HYL.out true), hnx⟩
                | false =>
                  have hn2 : (if (!true || wLt ⟨xa, xb, xc⟩ ⟨ya, yb, yc⟩) = true then ((⟨ya, yb, yc⟩ : PWt), true) else ((⟨xa, xb, xc⟩ : PWt), true)) = (⟨xa, xb, xc⟩, true) := by rw [HLT.out]; rfl
                  rw [hn2] at hnx
                  clear hn2
                  go_wp2_with fail
                  go_roundw
                  case measure => simp [intOf]; omega
                  case rel => exact ⟨j + 1, _, by omega, by go_num, by trivial, Lib.hid (HL3.out.kept_by hk6), hnx⟩
    · obtain ⟨⟨xa, xb, xc⟩, done⟩ := acc
      obtain rfl : j = List.length r.sels := by omega
      have HE : Hid (mBest ns k r.sels = (⟨xa, xb, xc⟩, done)) := Lib.hid (by unfold mBest; rw [← HX0.out, List.take_length])
      obtain ⟨x1, x2, x3⟩ := HL.out.at_.ints
      have hres := HL.out.res
      have fz := freeIn hres
      have f0 := fz 0
      have f1 := fz 1
      have f2 := fz 2
      obtain ⟨q0, q1, q2⟩ := hres.ints
      simp only at x1 x2 x3 q0 q1 q2
      clear fz
      go_wp2_with fail
      have hz : (((wr0.setCell ⟨w.heap.size + 1, 0, none⟩ (.int .i64 (xa : Int))).setCell ⟨w.heap.size + 1, 1, none⟩ (.int .i64 (xb : Int))).setCell ⟨w.heap.size + 1, 2, none⟩ (.int .i64 (xc : Int))).heap[w.heap.size + 1]? = some (.cells #[.int .i64 (xa : Int), .int .i64 (xb : Int), .int .i64 (xc : Int)] 47 (0, 0)) := by
        have := setIn (setIn (setIn hres 0 (.int .i64 (xa : Int))) 1 (.int .i64 (xb : Int))) 2 (.int .i64 (xc : Int))
        simpa using this
      have kz : Kept (fun _ => False) w (((wr0.setCell ⟨w.heap.size + 1, 0, none⟩ (.int .i64 (xa : Int))).setCell ⟨w.heap.size + 1, 1, none⟩ (.int .i64 (xb : Int))).setCell ⟨w.heap.size + 1, 2, none⟩ (.int .i64 (xc : Int))) := ((HL.out.kept.setCell (p := ⟨w.heap.size + 1, 0, none⟩) (.inr (by show w.heap.size ≤ w.heap.size + 1; omega)) _).setCell (p := ⟨w.heap.size + 1, 1, none⟩) (.inr (by show w.heap.size ≤ w.heap.size + 1; omega)) _).setCell (p := ⟨w.heap.size + 1, 2, none⟩) (.inr (by show w.heap.size ≤ w.heap.size + 1; omega)) _
      generalize (((wr0.setCell ⟨w.heap.size + 1, 0, none⟩ (.int .i64 (xa : Int))).setCell ⟨w.heap.size + 1, 1, none⟩ (.int .i64 (xb : Int))).setCell ⟨w.heap.size + 1, 2, none⟩ (.int .i64 (xc : Int))) = wz at *
      have z0 : wz.cell? ⟨w.heap.size + 1, 0, none⟩ = some (.int .i64 (xa : Int)) := cellIn hz 0 rfl
      have z1 : wz.cell? ⟨w.heap.size + 1, 1, none⟩ = some (.int .i64 (xb : Int)) := cellIn hz 1 rfl
      have z2 : wz.cell? ⟨w.heap.size + 1, 2, none⟩ = some (.int .i64 (xc : Int)) := cellIn hz 2 rfl
      refine bodyPost_ret (v := .tuple #[wtVal ⟨xa, xb, xc⟩, .bool done]) (by simp [results, Tryd.results26, go_sem, z0, z1, z2, wtVal]) rfl ?_
      rw [HE.out]
      exact ⟨rfl, kz⟩
end Go.Proofs.YtplbdlgmjehckaaDoor
