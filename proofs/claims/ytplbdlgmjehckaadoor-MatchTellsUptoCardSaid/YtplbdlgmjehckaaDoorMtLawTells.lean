/-
  inklaw3.MatchTells.
-/
import Derived.Test.YtplbdlgmjehckaaDoorR3Best
import Derived.Test.YtplbdlgmjehckaaDoorR3Meant
import Derived.Test.YtplbdlgmjehckaaDoorMtEq
namespace Go.Proofs.YtplbdlgmjehckaaDoor
open Go.RowKit
set_option linter.unusedVariables false
set_option linter.unusedSimpArgs false

/-- what the loop keeps: the rule's box, the elements, the selectors -/
structure TLp (w wr : World) (bx : Nat) (r : PRule) (sa da : Option Addr) (scap dcap : Nat) : Prop where
  box : wr.heap[bx]? = some (.cells #[.string (str r.media), .slice sa r.sels.length scap, .slice da r.decls.length dcap, .int .i64 r.lo, .int .i64 r.hi] 57 (0, 0))
  kept : Kept (fun _ => False) w wr
theorem TLp.by {w wr wx : World} {bx : Nat} {r : PRule} {sa da : Option Addr} {scap dcap : Nat} (h : TLp w wr bx r sa da scap dcap) (hk : Kept (fun _ => False) wr wx) : TLp w wx bx r sa da scap dcap := ⟨hk.heap id h.box, h.kept.trans hk⟩

set_option maxRecDepth 100000 in
set_option maxHeartbeats 3200000 in
theorem matchTells_any (ns : List PNode) (hns : MtCtx ns) (r : PRule) (u : Value) (m : Int) (w : World) (v : Value) (k : Int) (hv : NodesAt w v ns) (hr : RuleAt w u r) (hf : FewTests r.sels) (hk : -9223372036854775808 ≤ k ∧ k ≤ 9223372036854775807) (hm : w.cell? ⟨0, 0, none⟩ = some (.int .i64 m)) :
    Calls Tryd.prog 8 #[v, .int .i64 k, ruleVal r u] w fun e w' => e = .returned (.bool true) ∧ Below w.heap.size w w' := by
  obtain ⟨na, ncap, rfl, hnc1, hnc2⟩ := hv.form
  obtain ⟨sv, dv, rfl, hs, hd⟩ := hr
  obtain ⟨sa, scap, rfl, hsc1, hsc2⟩ := NestAt.form hs
  obtain ⟨da, dcap, rfl, hdc1, hdc2⟩ := DeclsAt.form hd
  unfold maxLen at hsc2 hdc2 hnc2
  have hfew := hf.1
  have hfewn := hns.few
  have HV := Lib.hid hv
  have HSL := Lib.hid hs
  have HDL := Lib.hid hd
  have HF := Lib.hid hf
  have HM := Lib.hid hm
  have HK := Lib.hid hk
  have HNS := Lib.hid hns
  clear hv hs hd hf hm hns
  show Calls Tryd.prog 8 #[.slice na ns.length ncap, .int .i64 k, .agg #[.string (str r.media), .slice sa r.sels.length scap, .slice da r.decls.length dcap, .int .i64 r.lo, .int .i64 r.hi]] w _
  obtain ⟨wb, HWB⟩ : ∃ y, Hid (w.alloc (.cells #[.string (str r.media), .slice sa r.sels.length scap, .slice da r.decls.length dcap, .int .i64 r.lo, .int .i64 r.hi] 57 (0, 0)) = y) := ⟨_, rfl⟩
  have kb : Kept (fun _ => False) w wb := by rw [← HWB.out]; exact (Kept.refl _ w).alloc _
  have hb : wb.heap[w.heap.size]? = some (.cells #[.string (str r.media), .slice sa r.sels.length scap, .slice da r.decls.length dcap, .int .i64 r.lo, .int .i64 r.hi] 57 (0, 0)) := by rw [← HWB.out]; exact newIn w _
  have HT0 : Hid (TLp w wb w.heap.size r sa da scap dcap) := Lib.hid ⟨hb, kb⟩
  obtain ⟨k0, hk0, hx0, hx1, hx2⟩ := info_parts info_sel
  have b1 : wb.cell? ⟨w.heap.size, 1, none⟩ = some (.slice sa r.sels.length scap) := cellIn hb 1 rfl
  clear kb hb
  go_enter Tryd.func8, Tryd.ntmps8
  go_upto_region 1 with fail
  rw [HWB.out]
  go_upto_block 0 with fail
  go_cut [] (fun wx => Hid (TLp w wx w.heap.size r sa da scap dcap))
  case first =>
    go_wp2_with fail
    go_loopw [16] (fun c wr => ∃ j : Nat, j ≤ r.sels.length ∧ c = .int .i64 (j : Int) ∧ Hid (TLp w wr w.heap.size r sa da scap dcap)) (fun c _ => r.sels.length - (intOf c).toNat)
    case atStart => exact ⟨0, by omega, rfl, HT0⟩
    case round =>
      obtain ⟨j, hj, rfl, HL⟩ := hrel
      obtain ⟨wr0, hwr0⟩ : ∃ x, x = wr := ⟨_, rfl⟩
      subst hwr0
      by_cases hlt : j < r.sels.length
      · have hx := List.getElem?_eq_getElem hlt
        generalize hgx : r.sels[j] = s at hx
        clear hgx
        obtain ⟨pb, po, pv, rfl, hpc, hpt⟩ := NestAt.at HSL.out hx
        have p0 : wr0.cell? ⟨pb, po + j, none⟩ = some pv := HL.out.kept.cell id (by have := hpc 0 _ rfl; simpa using this)
        obtain ⟨pa, pc, rfl, hpc1, hpc2⟩ := NestAt.form hpt
        unfold maxLen at hpc2
        have HPT := Lib.hid hpt
        have HNT := Lib.hid (HF.out.2 s (List.mem_of_getElem? hx))
        clear hx hpc hpt
        obtain ⟨hit, HIT⟩ : ∃ x, Hid (mMatches ns k s = x) := ⟨_, rfl⟩
        obtain ⟨⟨ya, yb, yc⟩, HWY⟩ : ∃ x, Hid (mWeigh s = x) := ⟨_, rfl⟩
        have HCM := matches_any ns HNS.out s m wr0 _ _ k (nodes_firm.kept HV.out HL.out.kept) (parts_firm.kept HPT.out HL.out.kept) HK.out (HL.out.kept.cell id HM.out)
        rw [HIT.out] at HCM
        replace HCM := Lib.hid HCM
        have HCW : Hid (∀ wz, Kept (fun _ => False) wr0 wz → Calls Tryd.prog 20 #[.slice pa s.length pc] wz fun e w' => e = .returned (.agg #[.int .i64 (ya : Int), .int .i64 (yb : Int), .int .i64 (yc : Int)]) ∧ Kept (fun _ => False) wz w') := Lib.hid fun wz hz => by
          have := weigh_any s wz _ (parts_firm.kept HPT.out (HL.out.kept.trans hz)) HNT.out
          rw [HWY.out] at this
          exact this
        have HRW : Hid (∀ wz, Kept (fun _ => False) wr0 wz → Calls Tryd.prog 24 #[.slice pa s.length pc] wz fun e w' => e = .returned (.agg #[.int .i64 (ya : Int), .int .i64 (yb : Int), .int .i64 (yc : Int)]) ∧ Kept (fun _ => False) wz w') := Lib.hid fun wz hz => by
          have := rweigh_any s wz _ (parts_firm.kept HPT.out (HL.out.kept.trans hz)) HNT.out
          rw [HWY.out] at this
          exact this
        have HRM : Hid (∀ wz, Kept (fun _ => False) wr0 wz → Calls Tryd.prog 23 #[.slice na ns.length ncap, .slice pa s.length pc] wz fun e w' => ∃ b, e = .returned (.slice (some ⟨b, 0, none⟩) ns.length ns.length) ∧ Kept (fun _ => False) wz w' ∧ ∀ k, k < ns.length → w'.cell? ⟨b, k, none⟩ = some (.bool (!s.isEmpty && mAt ns s.reverse (k : Int)))) := Lib.hid fun wz hz =>
          rmeant_any ns HNS.out s wz _ _ (nodes_firm.kept HV.out (HL.out.kept.trans hz)) (parts_firm.kept HPT.out (HL.out.kept.trans hz))
        have HEQ : Hid (∀ wz, (Op.equalIn 10000 47 (.agg #[.int .i64 (ya : Int), .int .i64 (yb : Int), .int .i64 (yc : Int)]) (.agg #[.int .i64 (ya : Int), .int .i64 (yb : Int), .int .i64 (yc : Int)])).run Tryd.prog wz = .ok true wz) := Lib.hid fun wz => by
          have := eq_weight ⟨ya, yb, yc⟩ ⟨ya, yb, yc⟩ wz
          simpa using this
        by_cases hin : 0 ≤ k ∧ k < (ns.length : Int)
        · obtain ⟨kn, HKN⟩ : ∃ n : Nat, Hid (k = (n : Int)) := ⟨k.toNat, Lib.hid (by omega)⟩
          have hkl : kn < ns.length := by have := HKN.out; omega
          have hk1 : 0 ≤ k := hin.1
          have hk2 : k < (ns.length : Int) := hin.2
          have hkt : k.toNat = kn := by have := HKN.out; omega
          have hmm : Hid ((!s.isEmpty && mAt ns s.reverse (kn : Int)) = hit) := Lib.hid (by rw [← HIT.out, ← HKN.out]; rfl)
          clear hin
          go_wp2_with fail
          refine HCM.out.mono ?_
          rintro e w3 ⟨rfl, hk3⟩
          go_wp2_with fail
          refine (HRM.out w3 hk3).mono ?_
          rintro e w4 ⟨b, rfl, hk4, hcells⟩
          have hc := hcells kn hkl
          rw [hmm.out] at hc
          clear hcells
          go_wp2_with fail
          refine (HCW.out w4 (hk3.trans hk4)).mono ?_
          rintro e w5 ⟨rfl, hk5⟩
          go_wp2_with fail
          refine (HRW.out w5 (((hk3.trans hk4)).trans hk5)).mono ?_
          rintro e w6 ⟨rfl, hk6⟩
          have heq := HEQ.out w6
          have HL6 := Lib.hid (HL.out.by ((((hk3.trans hk4)).trans hk5).trans hk6))
          clear hk5 hk6
          go_wp2_with fail
          go_roundw
          case measure => simp [intOf]; omega
          case rel => exact ⟨j + 1, by omega, by go_num, HL6⟩
        · have hf : hit = false := by
            rw [← HIT.out]; unfold mMatches
            rw [mAt_out (by simp [inR]; omega)]; simp
          subst hf
          by_cases hk0 : k < 0
          · go_wp2_with fail
            refine HCM.out.mono ?_
            rintro e w3 ⟨rfl, hk3⟩
            clear hin
            go_wp2_with fail
            refine (HCW.out w3 hk3).mono ?_
            rintro e w5 ⟨rfl, hk5⟩
            go_wp2_with fail
            refine (HRW.out w5 ((hk3).trans hk5)).mono ?_
            rintro e w6 ⟨rfl, hk6⟩
            have heq := HEQ.out w6
            have HL6 := Lib.hid (HL.out.by (((hk3).trans hk5).trans hk6))
            clear hk5 hk6
            go_wp2_with fail
            go_roundw
            case measure => simp [intOf]; omega
            case rel => exact ⟨j + 1, by omega, by go_num, HL6⟩
          · have hk1 : (ns.length : Int) ≤ k := by omega
            go_wp2_with fail
            refine HCM.out.mono ?_
            rintro e w3 ⟨rfl, hk3⟩
            clear hin
            go_wp2_with fail
            refine (HCW.out w3 hk3).mono ?_
            rintro e w5 ⟨rfl, hk5⟩
            go_wp2_with fail
            refine (HRW.out w5 ((hk3).trans hk5)).mono ?_
            rintro e w6 ⟨rfl, hk6⟩
            have heq := HEQ.out w6
            have HL6 := Lib.hid (HL.out.by (((hk3).trans hk5).trans hk6))
            clear hk5 hk6
            go_wp2_with fail
            go_roundw
            case measure => simp [intOf]; omega
            case rel => exact ⟨j + 1, by omega, by go_num, HL6⟩
      · obtain rfl : j = r.sels.length := by omega
        go_wp2_with fail
        go_meet
        case rel => exact HL
  case rest =>
    have HL := hcut
    obtain ⟨⟨⟨xa, xb, xc⟩, ok⟩, HBS⟩ : ∃ x, Hid (mBest ns k r.sels = x) := ⟨_, rfl⟩
    have HC : Hid (∀ wz, Kept (fun _ => False) wc wz → Calls Tryd.prog 25 #[.slice na ns.length ncap, .int .i64 k, .agg #[.string (str r.media), .slice sa r.sels.length scap, .slice da r.decls.length dcap, .int .i64 r.lo, .int .i64 r.hi]] wz fun e w' => e = .returned (.tuple #[.agg #[.int .i64 (xa : Int), .int .i64 (xb : Int), .int .i64 (xc : Int)], .bool ok]) ∧ Kept (fun _ => False) wz w') := Lib.hid fun wz hz => by
      have hk := HL.out.kept.trans hz
      have := best_any ns HNS.out r (.tuple #[.slice sa r.sels.length scap, .slice da r.decls.length dcap]) m wz _ k (nodes_firm.kept HV.out hk) ⟨_, _, rfl, sels_firm.kept HSL.out hk, decls_firm.kept HDL.out hk⟩ HF.out HK.out (hk.cell id HM.out)
      rw [HBS.out] at this
      exact this
    have HR : Hid (∀ wz, Kept (fun _ => False) wc wz → Calls Tryd.prog 26 #[.slice na ns.length ncap, .int .i64 k, .agg #[.string (str r.media), .slice sa r.sels.length scap, .slice da r.decls.length dcap, .int .i64 r.lo, .int .i64 r.hi]] wz fun e w' => e = .returned (.tuple #[.agg #[.int .i64 (xa : Int), .int .i64 (xb : Int), .int .i64 (xc : Int)], .bool ok]) ∧ Kept (fun _ => False) wz w') := Lib.hid fun wz hz => by
      have hk := HL.out.kept.trans hz
      have := rbest_any ns HNS.out r (.tuple #[.slice sa r.sels.length scap, .slice da r.decls.length dcap]) m wz _ k (nodes_firm.kept HV.out hk) ⟨_, _, rfl, sels_firm.kept HSL.out hk, decls_firm.kept HDL.out hk⟩ HF.out HK.out (hk.cell id HM.out)
      rw [HBS.out] at this
      exact this
    have c0 : wc.cell? ⟨w.heap.size, 0, none⟩ = some (.string (str r.media)) := cellIn HL.out.box 0 rfl
    have c1 : wc.cell? ⟨w.heap.size, 1, none⟩ = some (.slice sa r.sels.length scap) := cellIn HL.out.box 1 rfl
    have c2 : wc.cell? ⟨w.heap.size, 2, none⟩ = some (.slice da r.decls.length dcap) := cellIn HL.out.box 2 rfl
    have c3 : wc.cell? ⟨w.heap.size, 3, none⟩ = some (.int .i64 r.lo) := cellIn HL.out.box 3 rfl
    have c4 : wc.cell? ⟨w.heap.size, 4, none⟩ = some (.int .i64 r.hi) := cellIn HL.out.box 4 rfl
    go_wp2_with fail
    refine (HC.out wc (Kept.refl _ _)).mono ?_
    rintro e w2 ⟨rfl, hk2⟩
    go_upto_region 8 with fail
    obtain ⟨wd, HWD⟩ : ∃ x, Hid (w2.alloc (.cells #[.int .i64 (xa : Int), .int .i64 (xb : Int), .int .i64 (xc : Int)] 47 (0, 0)) = x) := ⟨_, rfl⟩
    have hyd : WtAt wd w2.heap.size ⟨xa, xb, xc⟩ := by rw [← HWD.out]; exact newIn w2 _
    have hkd : Kept (fun _ => False) w2 wd := by rw [← HWD.out]; exact (Kept.refl _ w2).alloc _
    have HBX := Lib.hid ((hk2.trans hkd).heap id HL.out.box)
    have d0 := cellIn HBX.out 0 rfl
    have d1 := cellIn HBX.out 1 rfl
    have d2 := cellIn HBX.out 2 rfl
    have d3 := cellIn HBX.out 3 rfl
    have d4 := cellIn HBX.out 4 rfl
    have KD := Lib.hid (hk2.trans hkd)
    have HYD := Lib.hid hyd
    rw [HWD.out]
    clear c0 c1 c2 c3 c4 hyd hkd hk2
    go_wp2_with fail
    refine (HR.out wd KD.out).mono ?_
    rintro e w3 ⟨rfl, hk3⟩
    go_upto_region 9 with fail
    obtain ⟨we, HWE⟩ : ∃ x, Hid (w3.alloc (.cells #[.int .i64 (xa : Int), .int .i64 (xb : Int), .int .i64 (xc : Int)] 47 (0, 0)) = x) := ⟨_, rfl⟩
    have hye : WtAt we w3.heap.size ⟨xa, xb, xc⟩ := by rw [← HWE.out]; exact newIn w3 _
    have hke : Kept (fun _ => False) w3 we := by rw [← HWE.out]; exact (Kept.refl _ w3).alloc _
    obtain ⟨y1, y2, y3⟩ := hye.ints
    have hyd2 : WtAt we w2.heap.size ⟨xa, xb, xc⟩ := (hk3.trans hke).heap id HYD.out
    obtain ⟨x1, x2, x3⟩ := hyd2.ints
    simp only at x1 x2 x3 y1 y2 y3
    have he : (Op.equalIn 10000 47 (.agg #[.int .i64 (xa : Int), .int .i64 (xb : Int), .int .i64 (xc : Int)]) (.agg #[.int .i64 (xa : Int), .int .i64 (xb : Int), .int .i64 (xc : Int)])).run Tryd.prog we = .ok true we := by
      have := eq_weight ⟨xa, xb, xc⟩ ⟨xa, xb, xc⟩ we
      simpa using this
    have KE := Lib.hid (((HL.out.kept.trans KD.out).trans hk3).trans hke)
    rw [HWE.out]
    clear d0 d1 d2 d3 d4 hk3 hke hye hyd2
    cases ok with
    | true =>
      go_wp2_with fail
      go_ret
      exact ⟨rfl, KE.out.below⟩
    | false =>
      go_wp2_with fail
      go_ret
      exact ⟨rfl, KE.out.below⟩
end Go.Proofs.YtplbdlgmjehckaaDoor
