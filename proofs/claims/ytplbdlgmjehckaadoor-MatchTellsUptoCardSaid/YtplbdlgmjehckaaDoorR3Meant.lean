/-
  inkref3.Meant.
-/
import Derived.Test.YtplbdlgmjehckaaDoorR3Test
import Derived.Test.YtplbdlgmjehckaaDoorR3Means
import Derived.Test.YtplbdlgmjehckaaDoorBools
namespace Go.Proofs.YtplbdlgmjehckaaDoor
open Go.RowKit
set_option linter.unusedVariables false
set_option linter.unusedSimpArgs false

/-- whom the first i parts mean -/
def meantAt (ns : List PNode) (s : PSel) (i : Nat) (k : Nat) : Bool := mAt ns (s.take i).reverse (k : Int)
def meantL (ns : List PNode) (s : PSel) (i : Nat) : List Bool := (List.range ns.length).map (meantAt ns s i)
theorem meantL_len (ns : List PNode) (s : PSel) (i : Nat) : (meantL ns s i).length = ns.length := by simp [meantL]
theorem meantL_get {ns : List PNode} {s : PSel} {i k : Nat} (h : k < ns.length) : (meantL ns s i)[k]? = some (meantAt ns s i k) := by
  simp [meantL, List.getElem?_range h]
/-- while the next ones are told: k of them are -/
def meantTo (ns : List PNode) (s : PSel) (i k : Nat) : List Bool := (List.range k).map (meantAt ns s i) ++ List.replicate (ns.length - k) false
theorem meantTo_zero (ns : List PNode) (s : PSel) (i : Nat) : meantTo ns s i 0 = List.replicate ns.length false := by simp [meantTo]
theorem meantTo_all (ns : List PNode) (s : PSel) (i : Nat) : meantTo ns s i ns.length = meantL ns s i := by simp [meantTo, meantL]
theorem meantTo_set {ns : List PNode} {s : PSel} {i k : Nat} (h : k < ns.length) : (meantTo ns s i k).set k (meantAt ns s i k) = meantTo ns s i (k + 1) := by
  unfold meantTo
  rw [List.set_append_right _ _ (by simp)]
  obtain ⟨m, hm⟩ : ∃ m, ns.length - k = m + 1 := ⟨ns.length - k - 1, by omega⟩
  rw [hm, show ns.length - (k + 1) = m from by omega]
  simp [List.replicate_succ, List.range_succ]
theorem meantTo_get {ns : List PNode} {s : PSel} {i k : Nat} (h : k < ns.length) : (meantTo ns s i k)[k]? = some false := by
  unfold meantTo
  obtain ⟨m, hm⟩ : ∃ m, ns.length - k = m + 1 := ⟨ns.length - k - 1, by omega⟩
  rw [List.getElem?_append_right (by simp), hm, List.replicate_succ]
  simp
theorem bools_step {ns : List PNode} {s : PSel} {i k : Nat} {w : World} {b : Nat} {g : Bool} (h : BoolsAt w b (meantTo ns s i k)) (hk : k < ns.length) (hg : meantAt ns s i k = g) : BoolsAt (w.setCell ⟨b, k, none⟩ (.bool g)) b (meantTo ns s i (k + 1)) := by
  rw [← meantTo_set hk, hg]
  exact h.put k g
/-- what stands ahead of the parts: nothing, or whom those so far mean -/
def NowAt (w0 w : World) (ns : List PNode) (s : PSel) (i : Nat) (v : Value) : Prop := (i = 0 ∧ v = .slice none 0 0) ∨ (0 < i ∧ ∃ b, v = .slice (some ⟨b, 0, none⟩) ns.length ns.length ∧ w0.heap.size ≤ b ∧ BoolsAt w b (meantL ns s i))
theorem NowAt.kept {w0 w w' : World} {ns : List PNode} {s : PSel} {i : Nat} {v : Value} (h : NowAt w0 w ns s i v) (hk : Kept (fun _ => False) w w') : NowAt w0 w' ns s i v :=
  h.imp id fun ⟨h1, b, h2, h3, h4⟩ => ⟨h1, b, h2, h3, h4.kept hk id⟩

set_option maxRecDepth 100000 in
set_option maxHeartbeats 6400000 in
theorem rmeant_any (ns : List PNode) (hns : MtCtx ns) (s : PSel) (w : World) (v sv : Value) (hv : NodesAt w v ns) (hp : PartsAt w sv s) :
    Calls Tryd.prog 23 #[v, sv] w fun e w' => ∃ b, e = .returned (.slice (some ⟨b, 0, none⟩) ns.length ns.length) ∧ Kept (fun _ => False) w w' ∧ ∀ k, k < ns.length → w'.cell? ⟨b, k, none⟩ = some (.bool (!s.isEmpty && mAt ns s.reverse (k : Int))) := by
  obtain ⟨na, ncap, rfl, hnc1, hnc2⟩ := hv.form
  obtain ⟨pa, pcap, rfl, hpc1, hpc2⟩ := NestAt.form hp
  unfold maxLen at hnc2 hpc2
  have hfew := hns.few
  have HV := Lib.hid hv
  have HP := Lib.hid hp
  clear hv hp
  go_enter Tryd.func23, Tryd.ntmps23
  go_wp2_with fail
  go_loopw [5, 18] (fun nv c wr => ∃ i : Nat, i ≤ List.length s ∧ c = .int .i64 (i : Int) ∧ Hid (Kept (fun _ => False) w wr) ∧ Hid (NowAt w wr ns s i nv)) (fun _ c _ => List.length s - (intOf c).toNat)
  case atStart => exact ⟨0, by omega, rfl, Lib.hid (Kept.refl _ _), Lib.hid (.inl ⟨rfl, rfl⟩)⟩
  case round =>
    obtain ⟨i, hi, rfl, HK, HN⟩ := hrel
    obtain ⟨wr0, hwr0⟩ : ∃ x, x = wr := ⟨_, rfl⟩
    subst hwr0
    by_cases hlt : i < List.length s
    · have hx := List.getElem?_eq_getElem hlt
      generalize hgx : s[i] = p at hx
      clear hgx
      obtain ⟨pb, po, tv, rfl, hpc, hpt⟩ := NestAt.at HP.out hx
      have p0 : wr0.cell? ⟨pb, po + i * 2, none⟩ = some (.int .i64 p.join) := HK.out.cell id (hpc 0 _ rfl)
      have p1 : wr0.cell? ⟨pb, po + i * 2 + 1, none⟩ = some tv := HK.out.cell id (hpc 1 _ rfl)
      obtain ⟨ta, tc, rfl, htc1, htc2⟩ := TestsAt.form hpt
      unfold maxLen at htc2
      have HPT := Lib.hid hpt
      have HSP : Hid (∀ k, k < ns.length → meantAt ns s (i + 1) k = (mPart ns k p && (decide (i = 0) || mJoin ns p.join (mAt ns (s.take i).reverse) k))) := Lib.hid (by
        intro k hk
        unfold meantAt
        rw [rev_take (n := i + 1) (p := p) (by omega) (by rw [Nat.add_sub_cancel]; exact hx), Nat.add_sub_cancel, mAt, Int.toNat_natCast]
        have hin : inR ns (k : Int) = true := by simp [inR]; omega
        rw [hin, Bool.true_and]
        congr 2
        cases i with
        | zero => rfl
        | succ i =>
          have : (s.take (i + 1)).reverse.isEmpty = false := by
            rw [List.isEmpty_eq_false_iff]
            intro h
            have h2 : (s.take (i + 1)).reverse.length = i + 1 := by rw [List.length_reverse, List.length_take]; omega
            rw [h] at h2
            simp at h2
          rw [this]; simp)
      clear hx hpc hpt
      go_upto_region 5 with fail
      obtain ⟨wa, HWA⟩ : ∃ x', Hid (wr0.alloc (.cells #[.int .i64 p.join, .slice ta p.tests.length tc] 45 (0, 0)) = x') := ⟨_, rfl⟩
      have ka : Kept (fun _ => False) wr0 wa := by rw [← HWA.out]; exact (Kept.refl _ wr0).alloc _
      have hpa : wa.heap[wr0.heap.size]? = some (.cells #[.int .i64 p.join, .slice ta p.tests.length tc] 45 (0, 0)) := by rw [← HWA.out]; exact newIn wr0 _
      rw [HWA.out]
      obtain ⟨wb, hmk, hnb, kb⟩ := bools_new wa ns.length (by omega)
      obtain ⟨nb, HNB⟩ : ∃ y, Hid (wa.heap.size = y) := ⟨_, rfl⟩
      rw [HNB.out] at hmk hnb
      have hpb := kb.heap id hpa
      have HPB := Lib.hid hpb
      have HKB := Lib.hid ((HK.out.trans ka).trans kb)
      have HNB0 : Hid (BoolsAt wb nb (meantTo ns s (i + 1) 0)) := Lib.hid (by rw [meantTo_zero]; exact hnb)
      have KAB := Lib.hid (ka.trans kb)
      have hnbw : w.heap.size ≤ nb := by have := HK.out.size; have := ka.size; have := HNB.out; omega
      have hnbb : wr0.heap.size < nb := by have := ltIn hpa; have := HNB.out; omega
      have hpbs : w.heap.size ≤ wr0.heap.size := HK.out.size
      clear ka hpa hnb kb hpb p0 p1
      go_wp2_with fail
      go_loopw [28] (fun c wx => ∃ k : Nat, k ≤ ns.length ∧ c = .int .i64 (k : Int) ∧ Hid (Kept (· = nb) wb wx) ∧ Hid (BoolsAt wx nb (meantTo ns s (i + 1) k))) (fun c _ => ns.length - (intOf c).toNat)
      case atStart => exact ⟨0, by omega, rfl, Lib.hid (Kept.refl _ _), HNB0⟩
      case round =>
        obtain ⟨k, hk, rfl, HKK, HNX⟩ := hrel
        obtain ⟨wr1, hwr1⟩ : ∃ x, x = wr := ⟨_, rfl⟩
        subst hwr1
        have HK1 : Hid (Kept (fun _ => False) w wr1) := Lib.hid (HKB.out.trans' HKK.out (fun j hj (h : j = nb) => by omega))
        by_cases hklt : k < ns.length
        · have q1 : wr1.cell? ⟨wr0.heap.size, 1, none⟩ = some (.slice ta p.tests.length tc) := cellIn (HKK.out.heap (by show ¬ wr0.heap.size = nb; omega) HPB.out) 1 rfl
          have q0 : wr1.cell? ⟨wr0.heap.size, 0, none⟩ = some (.int .i64 p.join) := cellIn (HKK.out.heap (by show ¬ wr0.heap.size = nb; omega) HPB.out) 0 rfl
          have HQ0 := Lib.hid q0
          go_wp2_with fail
          go_loopw [10, 34] (fun g c wx => ∃ j : Nat, j ≤ p.tests.length ∧ c = .int .i64 (j : Int) ∧ g = .bool ((p.tests.take j).all (mTest ns k)) ∧ Hid (Kept (fun _ => False) wr1 wx)) (fun _ c _ => p.tests.length - (intOf c).toNat)
          case atStart => exact ⟨0, by omega, rfl, rfl, Lib.hid (Kept.refl _ _)⟩
          case round =>
            obtain ⟨j, hj, rfl, rfl, HKT⟩ := hrel
            obtain ⟨wr2, hwr2⟩ : ∃ x, x = wr := ⟨_, rfl⟩
            subst hwr2
            by_cases hjlt : j < p.tests.length
            · have hy := List.getElem?_eq_getElem hjlt
              generalize hgy : p.tests[j] = t at hy
              clear hgy
              obtain ⟨tb, to_, rfl, t0, t1, t2⟩ := TestsAt.at (tests_firm.kept HPT.out (HK1.out.trans HKT.out)) hy
              obtain ⟨g, HG⟩ : ∃ g, Hid ((p.tests.take j).all (mTest ns k) = g) := ⟨_, rfl⟩
              have hnx : Hid ((p.tests.take (j + 1)).all (mTest ns k) = (g && mTest ns k t)) := Lib.hid (by
                rw [List.take_add_one, hy, Option.toList_some, List.all_append, HG.out]; simp)
              rw [HG.out]
              clear hy q0 q1
              go_upto_region 13 with fail
              obtain ⟨wt, HWT⟩ : ∃ x', Hid (wr2.alloc (.cells #[.int .i64 t.kind, .string (str t.name), .string (str t.val)] 42 (0, 0)) = x') := ⟨_, rfl⟩
              have kt : Kept (fun _ => False) wr2 wt := by rw [← HWT.out]; exact (Kept.refl _ wr2).alloc _
              have hht : wt.heap[wr2.heap.size]? = some (.cells #[.int .i64 t.kind, .string (str t.name), .string (str t.val)] 42 (0, 0)) := by rw [← HWT.out]; exact newIn wr2 _
              have d0 : wt.cell? ⟨wr2.heap.size, 0, none⟩ = some (.int .i64 t.kind) := cellIn hht 0 rfl
              have d1 : wt.cell? ⟨wr2.heap.size, 1, none⟩ = some (.string (str t.name)) := cellIn hht 1 rfl
              have d2 : wt.cell? ⟨wr2.heap.size, 2, none⟩ = some (.string (str t.val)) := cellIn hht 2 rfl
              have KT := Lib.hid (HKT.out.trans kt)
              rw [HWT.out]
              have HTS := Lib.hid (rtest_any wt _ ns k (nodes_firm.kept HV.out (HK1.out.trans KT.out)) hklt hns.short hns.few t)
              clear t0 t1 t2 kt hht
              cases g with
              | false =>
                go_wp2_with fail
                go_roundw
                case measure => simp [intOf]; omega
                case rel => exact ⟨j + 1, by omega, by go_num, by rw [hnx.out]; rfl, KT⟩
              | true =>
                go_wp2_with (go_at_call 34; refine HTS.out.mono ?_; rintro e w5 ⟨rfl, hk5⟩)
                go_roundw
                case measure => simp [intOf]; omega
                case rel => exact ⟨j + 1, by omega, by go_num, by rw [hnx.out]; rfl, Lib.hid (KT.out.trans hk5)⟩
            · obtain rfl : j = p.tests.length := by omega
              have hgp : Hid (mPart ns k p = (p.tests.take p.tests.length).all (mTest ns k)) := Lib.hid (by rw [List.take_length]; rfl)
              obtain ⟨gp, HGP⟩ : ∃ g, Hid ((p.tests.take p.tests.length).all (mTest ns k) = g) := ⟨_, rfl⟩
              have HSPK : Hid ((gp && (decide (i = 0) || mJoin ns p.join (mAt ns (s.take i).reverse) k)) = meantAt ns s (i + 1) k) := Lib.hid (by rw [HSP.out k hklt, hgp.out, HGP.out])
              rw [HGP.out]
              have q0 := HKT.out.cell id HQ0.out
              have HKU : Hid (Kept (· = nb) wb wr2) := Lib.hid (HKK.out.trans (HKT.out.mono (fun _ _ h => h.elim)))
              have HNU := Lib.hid (HNX.out.kept HKT.out id)
              have HKW := Lib.hid (HK1.out.trans HKT.out)
              clear q1
              rcases HN.out with ⟨h0, hnv⟩ | ⟨hpos, b, hnv, hbw, hbl0⟩
              · subst hnv
                have HI0 := Lib.hid h0
                have d0 : decide ((0 : Int) < (i : Int)) = false := by simp; omega
                have d1 : decide (0 < i) = false := by simp; omega
                have d2 : ¬ 0 < i := by omega
                clear h0
                have HF : Hid (meantAt ns s (i + 1) k = gp) := Lib.hid (by rw [← HSPK.out, HI0.out]; simp)
                have hbl := HNU.out
                have HKL := HKU
                have hfr := hbl.free k
                have hcl := hbl.cell (k := k) (x := false) (meantTo_get hklt)
                have HST := Lib.hid (bools_step hbl hklt HF.out)
                clear hbl
                go_wp2_with fail
                go_roundw
                case measure => simp [intOf]; omega
                case rel => exact ⟨k + 1, by omega, by go_num, Lib.hid (HKL.out.setCell (p := ⟨nb, k, none⟩) (.inl rfl) _), HST⟩
              · subst hnv
                have HI0 : Hid (decide (i = 0) = false) := Lib.hid (by simp; omega)
                have d0 : decide ((0 : Int) < (i : Int)) = true := by simp; omega
                have d1 : decide (0 < i) = true := by simp; omega
                have hbb : b < wr0.heap.size := ltIn hbl0
                have HB2 : Hid (BoolsAt wr2 b (meantL ns s i)) := Lib.hid ((hbl0.kept KAB.out id).kept HKU.out (by show ¬ b = nb; omega))
                clear hbl0
                cases gp with
                | false =>
                  have HF : Hid (meantAt ns s (i + 1) k = false) := Lib.hid (by rw [← HSPK.out]; rfl)
                  have hbl := HNU.out
                  have HKL := HKU
                  have hfr := hbl.free k
                  have hcl := hbl.cell (k := k) (x := false) (meantTo_get hklt)
                  have HST := Lib.hid (bools_step hbl hklt HF.out)
                  clear hbl
                  go_wp2_with fail
                  go_roundw
                  case measure => simp [intOf]; omega
                  case rel => exact ⟨k + 1, by omega, by go_num, Lib.hid (HKL.out.setCell (p := ⟨nb, k, none⟩) (.inl rfl) _), HST⟩
                | true =>
                  have HSJ : Hid (mJoin ns p.join (mAt ns (s.take i).reverse) k = meantAt ns s (i + 1) k) := Lib.hid (by rw [← HSPK.out, HI0.out]; simp)
                  by_cases hj2 : p.join = 2
                  · have e2 : (p.join == 2) = true := by simp [hj2]
                    have hJ : Hid (mAt ns (s.take i).reverse (parentOf ns k) = meantAt ns s (i + 1) k) := Lib.hid (by rw [← HSJ.out]; unfold mJoin; rw [if_pos hj2])
                    have hx := List.getElem?_eq_getElem hklt
                    generalize hgx : ns[k] = x at hx
                    clear hgx
                    have hpf := hns.fit x (List.mem_of_getElem? hx)
                    have hpo : Hid (parentOf ns k = x.parent) := Lib.hid (parentOf_at hx)
                    obtain ⟨nb2, noff, av, rfl, g0, g1, g2, g3, g4, g5, hav⟩ := (nodes_firm.kept HV.out HKW.out).at hx
                    clear g0 g2 g3 g4 g5 hav hx hj2
                    by_cases hu0 : x.parent < 0
                    · have HF : Hid (meantAt ns s (i + 1) k = false) := Lib.hid (by rw [← hJ.out, hpo.out, mAt_out (by simp [inR]; omega)])
                      have hbl := HNU.out
                      have HKL := HKU
                      have hfr := hbl.free k
                      have hcl := hbl.cell (k := k) (x := false) (meantTo_get hklt)
                      have HST := Lib.hid (bools_step hbl hklt HF.out)
                      clear hbl
                      go_wp2_with fail
                      go_roundw
                      case measure => simp [intOf]; omega
                      case rel => exact ⟨k + 1, by omega, by go_num, Lib.hid (HKL.out.setCell (p := ⟨nb, k, none⟩) (.inl rfl) _), HST⟩
                    · by_cases hu1 : (ns.length : Int) ≤ x.parent
                      · have HF : Hid (meantAt ns s (i + 1) k = false) := Lib.hid (by rw [← hJ.out, hpo.out, mAt_out (by simp [inR]; omega)])
                        have hbl := HNU.out
                        have HKL := HKU
                        have hfr := hbl.free k
                        have hcl := hbl.cell (k := k) (x := false) (meantTo_get hklt)
                        have HST := Lib.hid (bools_step hbl hklt HF.out)
                        clear hbl
                        go_wp2_with fail
                        go_roundw
                        case measure => simp [intOf]; omega
                        case rel => exact ⟨k + 1, by omega, by go_num, Lib.hid (HKL.out.setCell (p := ⟨nb, k, none⟩) (.inl rfl) _), HST⟩
                      · obtain ⟨u, HU⟩ : ∃ u : Nat, Hid (x.parent = (u : Int)) := ⟨x.parent.toNat, Lib.hid (by omega)⟩
                        have hul : u < ns.length := by have := HU.out; omega
                        rw [HU.out] at g1 hu0 hu1
                        have hcu := HB2.out.cell (meantL_get (i := i) (s := s) hul)
                        have HF : Hid (meantAt ns s (i + 1) k = meantAt ns s i u) := Lib.hid (by rw [← hJ.out, hpo.out, HU.out]; rfl)
                        have hbl := HNU.out
                        have HKL := HKU
                        have hfr := hbl.free k
                        have hcl := hbl.cell (k := k) (x := false) (meantTo_get hklt)
                        have HST := Lib.hid (bools_step hbl hklt HF.out)
                        clear hbl
                        go_wp2_with fail
                        go_roundw
                        case measure => simp [intOf]; omega
                        case rel => exact ⟨k + 1, by omega, by go_num, Lib.hid (HKL.out.setCell (p := ⟨nb, k, none⟩) (.inl rfl) _), HST⟩
                  · have e2 : (p.join == 2) = false := by simp [hj2]
                    by_cases hj3 : p.join = 3
                    · have e3 : (p.join == 3) = true := by simp [hj3]
                      have hJ : Hid (mAt ns (s.take i).reverse (pAhead ns (k : Int)) = meantAt ns s (i + 1) k) := Lib.hid (by rw [← HSJ.out]; unfold mJoin; rw [if_neg hj2, if_pos hj3])
                      have haf := ahead_fits ns (k : Int) hns.few
                      have hal := ahead_in ns (k : Int)
                      have HAH := rahead_any _ _ ns (k : Int) (nodes_firm.kept HV.out HKW.out) (by omega)
                      clear hj2 hj3
                      generalize hag : pAhead ns (k : Int) = ag at *
                      have HAH := Lib.hid HAH
                      clear hag
                      go_upto_region 23 with (go_at_call 35; refine HAH.out.mono ?_; rintro e w3 ⟨rfl, hq3⟩)
                      have HK3 : Hid (Kept (fun _ => False) wr2 w3) := Lib.hid (hq3.kept _)
                      have HB3 := Lib.hid (HB2.out.kept HK3.out id)
                      clear hq3
                      by_cases ha0 : ag < 0
                      · have HF : Hid (meantAt ns s (i + 1) k = false) := Lib.hid (by rw [← hJ.out, mAt_out (by simp [inR]; omega)])
                        have hbl := HNU.out.kept HK3.out id
                        have HKL := Lib.hid (HKU.out.trans ((HK3.out).mono (fun _ _ h => h.elim)))
                        have hfr := hbl.free k
                        have hcl := hbl.cell (k := k) (x := false) (meantTo_get hklt)
                        have HST := Lib.hid (bools_step hbl hklt HF.out)
                        clear hbl
                        go_wp2_with fail
                        go_roundw
                        case measure => simp [intOf]; omega
                        case rel => exact ⟨k + 1, by omega, by go_num, Lib.hid (HKL.out.setCell (p := ⟨nb, k, none⟩) (.inl rfl) _), HST⟩
                      · obtain ⟨u, rfl⟩ : ∃ u : Nat, ag = (u : Int) := ⟨ag.toNat, by omega⟩
                        have hul : u < ns.length := by omega
                        have hcu := HB3.out.cell (meantL_get (i := i) (s := s) hul)
                        have HF : Hid (meantAt ns s (i + 1) k = meantAt ns s i u) := Lib.hid (by rw [← hJ.out]; rfl)
                        have hbl := HNU.out.kept HK3.out id
                        have HKL := Lib.hid (HKU.out.trans ((HK3.out).mono (fun _ _ h => h.elim)))
                        have hfr := hbl.free k
                        have hcl := hbl.cell (k := k) (x := false) (meantTo_get hklt)
                        have HST := Lib.hid (bools_step hbl hklt HF.out)
                        clear hbl
                        go_wp2_with fail
                        go_roundw
                        case measure => simp [intOf]; omega
                        case rel => exact ⟨k + 1, by omega, by go_num, Lib.hid (HKL.out.setCell (p := ⟨nb, k, none⟩) (.inl rfl) _), HST⟩
                    · have e3 : (p.join == 3) = false := by simp [hj3]
                      by_cases hj1 : p.join = 1
                      · have e1 : (p.join == 1) = true := by simp [hj1]
                        have hJ : Hid ((ups ns k).any (fun u => mAt ns (s.take i).reverse (u : Int)) = meantAt ns s (i + 1) k) := Lib.hid (by rw [← HSJ.out]; unfold mJoin; rw [if_neg hj2, if_neg hj3, if_pos hj1])
                        clear hj1 hj2 hj3
                        go_wp2_with fail
                        go_loopw [10, 15] (fun g u wx => ∃ (z : Nat) (gg : Bool), u = .int .i64 (z : Int) ∧ g = .bool gg ∧ z < ns.length ∧ Hid (Kept (fun _ => False) wr2 wx) ∧ Hid ((gg || (ups ns z).any (fun u => mAt ns (s.take i).reverse (u : Int))) = meantAt ns s (i + 1) k)) (fun _ u _ => (intOf u).toNat)
                        case atStart => exact ⟨k, false, rfl, rfl, hklt, Lib.hid (Kept.refl _ _), Lib.hid (by rw [← hJ.out]; rfl)⟩
                        case round =>
                          obtain ⟨z, gg, rfl, rfl, hzl, HKZ, HU⟩ := hrel
                          have hy := List.getElem?_eq_getElem hzl
                          generalize hgy : ns[z] = y at hy
                          clear hgy
                          have hyf := hns.fit y (List.mem_of_getElem? hy)
                          have hyo : Hid (parentOf ns z = y.parent) := Lib.hid (parentOf_at hy)
                          obtain ⟨nb2, noff2, av2, rfl, _, y1, _⟩ := (nodes_firm.kept HV.out (HKW.out.trans HKZ.out)).at hy
                          have HBZ := Lib.hid (HB2.out.kept HKZ.out id)
                          clear hy
                          by_cases h0 : y.parent < 0
                          · have HF : Hid (meantAt ns s (i + 1) k = gg) := Lib.hid (by rw [← HU.out, ups_eq, hyo.out, if_neg (by omega)]; simp)
                            have hbl := HNU.out.kept HKZ.out id
                            have HKL := Lib.hid (HKU.out.trans ((HKZ.out).mono (fun _ _ h => h.elim)))
                            have hfr := hbl.free k
                            have hcl := hbl.cell (k := k) (x := false) (meantTo_get hklt)
                            have HST := Lib.hid (bools_step hbl hklt HF.out)
                            clear hbl
                            go_wp2_with fail
                            go_roundw
                            case measure => simp [intOf]; omega
                            case rel => exact ⟨k + 1, by omega, by go_num, Lib.hid (HKL.out.setCell (p := ⟨nb, k, none⟩) (.inl rfl) _), HST⟩
                          · by_cases h1 : (z : Int) ≤ y.parent
                            · have HF : Hid (meantAt ns s (i + 1) k = gg) := Lib.hid (by rw [← HU.out, ups_eq, hyo.out, if_neg (by omega)]; simp)
                              have hbl := HNU.out.kept HKZ.out id
                              have HKL := Lib.hid (HKU.out.trans ((HKZ.out).mono (fun _ _ h => h.elim)))
                              have hfr := hbl.free k
                              have hcl := hbl.cell (k := k) (x := false) (meantTo_get hklt)
                              have HST := Lib.hid (bools_step hbl hklt HF.out)
                              clear hbl
                              go_wp2_with fail
                              go_roundw
                              case measure => simp [intOf]; omega
                              case rel => exact ⟨k + 1, by omega, by go_num, Lib.hid (HKL.out.setCell (p := ⟨nb, k, none⟩) (.inl rfl) _), HST⟩
                            · obtain ⟨u, HUU⟩ : ∃ u : Nat, Hid (y.parent = (u : Int)) := ⟨y.parent.toNat, Lib.hid (by omega)⟩
                              have hul : u < z := by have := HUU.out; omega
                              have hR4 : Hid ((gg || (meantAt ns s i u || (ups ns u).any (fun u => mAt ns (s.take i).reverse (u : Int)))) = meantAt ns s (i + 1) k) := Lib.hid (by
                                rw [← HU.out, ups_eq ns z, hyo.out, HUU.out, if_pos (by omega), Int.toNat_natCast, List.any_cons]; rfl)
                              rw [HUU.out] at y1 h0 h1 hyf
                              have hcu := HBZ.out.cell (meantL_get (i := i) (s := s) (k := u) (by omega))
                              cases gg with
                              | true =>
                                go_wp2_with fail
                                go_roundw
                                case measure => simp [intOf]; omega
                                case rel => exact ⟨u, true, rfl, rfl, by omega, HKZ, Lib.hid (by rw [← hR4.out]; rfl)⟩
                              | false =>
                                go_wp2_with fail
                                go_roundw
                                case measure => simp [intOf]; omega
                                case rel => exact ⟨u, meantAt ns s i u, rfl, rfl, by omega, HKZ, Lib.hid (by rw [← hR4.out]; rfl)⟩
                      · have e1 : (p.join == 1) = false := by simp [hj1]
                        have hJ : Hid (false = meantAt ns s (i + 1) k) := Lib.hid (by rw [← HSJ.out]; unfold mJoin; rw [if_neg hj2, if_neg hj3, if_neg hj1])
                        clear hj1 hj2 hj3
                        have HF : Hid (meantAt ns s (i + 1) k = false) := Lib.hid (by rw [← hJ.out])
                        have hbl := HNU.out
                        have HKL := HKU
                        have hfr := hbl.free k
                        have hcl := hbl.cell (k := k) (x := false) (meantTo_get hklt)
                        have HST := Lib.hid (bools_step hbl hklt HF.out)
                        clear hbl
                        go_wp2_with fail
                        go_roundw
                        case measure => simp [intOf]; omega
                        case rel => exact ⟨k + 1, by omega, by go_num, Lib.hid (HKL.out.setCell (p := ⟨nb, k, none⟩) (.inl rfl) _), HST⟩
        · obtain rfl : k = ns.length := by omega
          have HNL : Hid (BoolsAt wr1 nb (meantL ns s (i + 1))) := Lib.hid (by rw [← meantTo_all]; exact HNX.out)
          go_wp2_with fail
          go_roundw
          case measure => simp [intOf]; omega
          case rel => exact ⟨i + 1, by omega, by go_num, HK1, Lib.hid (.inr ⟨by omega, nb, rfl, hnbw, HNL.out⟩)⟩
    · obtain rfl : i = List.length s := by omega
      rcases HN.out with ⟨h0, rfl⟩ | ⟨hpos, b, rfl, hb, hbl⟩
      · obtain ⟨wb, hmk, hnb, kb⟩ := bools_new wr0 ns.length (by omega)
        have HNB := Lib.hid hnb
        have HKB := Lib.hid (HK.out.trans kb)
        have hse : s.isEmpty = true := by rw [List.isEmpty_iff]; exact List.length_eq_zero_iff.1 h0
        have HSE := Lib.hid hse
        clear hnb kb hse h0
        have hnil := slice_nil_yes wr0
        go_wp2_with fail
        go_ret
        refine ⟨wr0.heap.size, rfl, HKB.out, fun k hk => ?_⟩
        rw [HNB.out.cell (x := false) (by simp [hk]), HSE.out]; rfl
      · have HBL := Lib.hid hbl
        have hse : Hid (s.isEmpty = false) := Lib.hid (by rw [List.isEmpty_eq_false_iff]; intro h; rw [h] at hpos; simp at hpos)
        clear hbl
        have hnil := slice_nil_no wr0 ⟨b, 0, none⟩ ns.length ns.length
        go_wp2_with fail
        go_ret
        refine ⟨b, rfl, HK.out, fun k hk => ?_⟩
        rw [HBL.out.cell (meantL_get hk), hse.out]
        unfold meantAt
        rw [List.take_length]; rfl
end Go.Proofs.YtplbdlgmjehckaaDoor
