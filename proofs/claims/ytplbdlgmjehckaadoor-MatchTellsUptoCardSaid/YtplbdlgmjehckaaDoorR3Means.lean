/-
  inkref3.Means.
-/
import Derived.Test.YtplbdlgmjehckaaDoorR3Test
import Derived.Test.YtplbdlgmjehckaaDoorMtAt
import Derived.Test.YtplbdlgmjehckaaDoorMtLaws
namespace Go.Proofs.YtplbdlgmjehckaaDoor
open Go.RowKit
set_option linter.unusedVariables false
set_option linter.unusedSimpArgs false

theorem mAt_out {ns : List PNode} {ps : List PPart} {k : Int} (h : inR ns k = false) : mAt ns ps k = false := by
  cases hm : mAt ns ps k with
  | false => rfl
  | true => rw [mAt_inR hm] at h; cases h

theorem ahead_in (ns : List PNode) (k : Int) : pAhead ns k < (ns.length : Int) := by
  have hl : ∀ (p : Int) (j : Nat), j ≤ ns.length → lastWith ns p j < (ns.length : Int) ∨ lastWith ns p j = -1 := by
    intro p j
    induction j with
    | zero => intro _; exact .inr rfl
    | succ j ih =>
      intro hj
      unfold lastWith
      split
      · exact .inl (by omega)
      · exact ih (by omega)
  unfold pAhead
  split
  · omega
  · rename_i h0
    split
    · rename_i n hn
      rcases hl n.parent k.toNat (by omega) with h | h <;> omega
    · omega

set_option maxRecDepth 100000 in
set_option maxHeartbeats 3200000 in
theorem rmeans_any (ns : List PNode) (hns : MtCtx ns) (s : PSel) : ∀ (n : Nat), n < s.length → ∀ (w : World) (v sv : Value) (k : Nat), k < ns.length → NodesAt w v ns → PartsAt w sv s →
    Calls Tryd.prog 37 #[v, .int .i64 (k : Int), sv, .int .i64 (n : Int)] w (AtEnds w (mAt ns (s.take (n + 1)).reverse (k : Int))) := by
  intro n
  induction n with
  | zero => 
    intro hnl w v sv k hkl hv hp
    obtain ⟨n, HNN⟩ : ∃ n : Nat, Hid (0 = n) := ⟨_, rfl⟩
    rw [HNN.out] at hnl ⊢
    obtain ⟨p, hpp⟩ : ∃ p, s[n]? = some p := ⟨_, List.getElem?_eq_getElem hnl⟩
    obtain ⟨q, HQ⟩ : ∃ q, Hid (mAt ns (s.take n).reverse = q) := ⟨_, rfl⟩
    obtain ⟨r, HR⟩ : ∃ r, Hid (mAt ns (s.take (n + 1)).reverse (k : Int) = r) := ⟨_, rfl⟩
    have hin : inR ns (k : Int) = true := by simp [inR]; omega
    have hR : Hid ((mPart ns k p && ((s.take n).reverse.isEmpty || mJoin ns p.join q k)) = r) := Lib.hid (by
      rw [← HR.out, rev_take (n := n + 1) (p := p) (by omega) (by rw [Nat.add_sub_cancel]; exact hpp), Nat.add_sub_cancel, mAt, HQ.out, hin, Int.toNat_natCast]; simp)
    rw [HR.out]
    obtain ⟨na, ncap, rfl, hnc1, hnc2⟩ := hv.form
    obtain ⟨pa, pcap, rfl, hpc1, hpc2⟩ := NestAt.form hp
    unfold maxLen at hnc2 hpc2
    obtain ⟨pb, po, tv, rfl, hpc, hpt⟩ := NestAt.at hp hpp
    have pj : w.cell? ⟨pb, po + n * 2, none⟩ = some (.int .i64 p.join) := hpc 0 _ rfl
    have pt : w.cell? ⟨pb, po + n * 2 + 1, none⟩ = some tv := hpc 1 _ rfl
    obtain ⟨ta, tc, rfl, htc1, htc2⟩ := TestsAt.form hpt
    unfold maxLen at htc2
    have HT := Lib.hid hpt
    have HV := Lib.hid hv
    have HP := Lib.hid hp
    have PJ := Lib.hid pj
    have hfew := hns.few
    clear hv hp hpp hpc hpt hin pj
    go_enter Tryd.func37, Tryd.ntmps37
    go_upto_block 0 with fail
    go_cut [] (fun wx => Hid (Kept (fun _ => False) w wx) ∧ Hid (mPart ns k p = true))
    case first =>
      go_wp2_with fail
      go_loopw [20] (fun i wr => ∃ j : Nat, j ≤ p.tests.length ∧ i = .int .i64 j ∧ Hid (Kept (fun _ => False) w wr) ∧ Hid ((p.tests.take j).all (mTest ns k) = true)) (fun i _ => p.tests.length - (intOf i).toNat)
      case atStart => exact ⟨0, by omega, rfl, Lib.hid (Kept.refl _ _), Lib.hid rfl⟩
      case round =>
        obtain ⟨j, hj, rfl, HK, HJ⟩ := hrel
        obtain ⟨wr0, hwr0⟩ : ∃ x, x = wr := ⟨_, rfl⟩
        subst hwr0
        by_cases hlt : j < p.tests.length
        · have hx := List.getElem?_eq_getElem hlt
          generalize hgx : p.tests[j] = t at hx
          clear hgx
          obtain ⟨tb, to_, rfl, t0, t1, t2⟩ := TestsAt.at (tests_firm.kept HT.out HK.out) hx
          have HX := Lib.hid hx
          clear hx
          go_upto_region 4 with fail
          obtain ⟨wa, HWA⟩ : ∃ x', Hid (wr0.alloc (.cells #[.int .i64 t.kind, .string (str t.name), .string (str t.val)] 42 (0, 0)) = x') := ⟨_, rfl⟩
          have ka : Kept (fun _ => False) wr0 wa := by rw [← HWA.out]; exact (Kept.refl _ wr0).alloc _
          have hh : wa.heap[wr0.heap.size]? = some (.cells #[.int .i64 t.kind, .string (str t.name), .string (str t.val)] 42 (0, 0)) := by rw [← HWA.out]; exact newIn wr0 _
          have d0 : wa.cell? ⟨wr0.heap.size, 0, none⟩ = some (.int .i64 t.kind) := cellIn hh 0 rfl
          have d1 : wa.cell? ⟨wr0.heap.size, 1, none⟩ = some (.string (str t.name)) := cellIn hh 1 rfl
          have d2 : wa.cell? ⟨wr0.heap.size, 2, none⟩ = some (.string (str t.val)) := cellIn hh 2 rfl
          have KA := Lib.hid (HK.out.trans ka)
          rw [HWA.out]
          have HTS := rtest_any wa _ ns k (nodes_firm.kept HV.out KA.out) hkl hns.short hns.few t
          clear t0 t1 t2 ka hh
          cases htst : mTest ns k t with
          | false =>
            rw [htst] at HTS
            have HTS := Lib.hid HTS
            have hr : Hid (false = r) := Lib.hid (by
              rw [← hR.out]
              have : mPart ns k p = false := by
                unfold mPart
                rw [List.all_eq_false]
                exact ⟨t, List.mem_of_getElem? HX.out, by simp [htst]⟩
              rw [this]; rfl)
            clear htst
            go_wp2_with (go_at_call 34; refine HTS.out.mono ?_; rintro e w2 ⟨rfl, hk2⟩)
            go_ret
            exact ⟨retb hr.out, KA.out.trans hk2⟩
          | true =>
            rw [htst] at HTS
            have HTS := Lib.hid HTS
            have HTT := Lib.hid htst
            clear htst
            go_wp2_with (go_at_call 34; refine HTS.out.mono ?_; rintro e w2 ⟨rfl, hk2⟩)
            go_roundw
            case measure => simp [intOf]; omega
            case rel =>
              refine ⟨j + 1, by omega, by go_num, Lib.hid (KA.out.trans hk2), Lib.hid ?_⟩
              rw [List.take_add_one, HX.out, Option.toList_some, List.all_append, HJ.out]
              simp [HTT.out]
        · obtain rfl : j = p.tests.length := by omega
          have hall : Hid (mPart ns k p = true) := Lib.hid (by have := HJ.out; rw [List.take_length] at this; exact this)
          go_wp2_with fail
          go_meet
          case rel => exact ⟨HK, hall⟩
    case rest =>
      obtain ⟨HK2, HALL⟩ := hcut
      have hR2 : Hid (((s.take n).reverse.isEmpty || mJoin ns p.join q k) = r) := Lib.hid (by rw [← hR.out, HALL.out]; simp)
      have pj2 := HK2.out.cell id PJ.out
      have HV2 := Lib.hid (nodes_firm.kept HV.out HK2.out)
      have HP2 := Lib.hid (parts_firm.kept HP.out HK2.out)
      have hr : Hid (true = r) := Lib.hid (by rw [← hR2.out, ← HNN.out]; rfl)
      have g : ((n : Int) == 0) = true := by have := HNN.out; simp; omega
      go_wp2_with fail
      go_ret
      exact ⟨retb hr.out, HK2.out⟩
  | succ n0 ih => 
    have IH := Lib.hid ih
    clear ih
    intro hnl w v sv k hkl hv hp
    obtain ⟨n, HNN⟩ : ∃ n : Nat, Hid (n0 + 1 = n) := ⟨_, rfl⟩
    rw [HNN.out] at hnl ⊢
    obtain ⟨p, hpp⟩ : ∃ p, s[n]? = some p := ⟨_, List.getElem?_eq_getElem hnl⟩
    obtain ⟨q, HQ⟩ : ∃ q, Hid (mAt ns (s.take n).reverse = q) := ⟨_, rfl⟩
    obtain ⟨r, HR⟩ : ∃ r, Hid (mAt ns (s.take (n + 1)).reverse (k : Int) = r) := ⟨_, rfl⟩
    have hin : inR ns (k : Int) = true := by simp [inR]; omega
    have hR : Hid ((mPart ns k p && ((s.take n).reverse.isEmpty || mJoin ns p.join q k)) = r) := Lib.hid (by
      rw [← HR.out, rev_take (n := n + 1) (p := p) (by omega) (by rw [Nat.add_sub_cancel]; exact hpp), Nat.add_sub_cancel, mAt, HQ.out, hin, Int.toNat_natCast]; simp)
    rw [HR.out]
    obtain ⟨na, ncap, rfl, hnc1, hnc2⟩ := hv.form
    obtain ⟨pa, pcap, rfl, hpc1, hpc2⟩ := NestAt.form hp
    unfold maxLen at hnc2 hpc2
    obtain ⟨pb, po, tv, rfl, hpc, hpt⟩ := NestAt.at hp hpp
    have pj : w.cell? ⟨pb, po + n * 2, none⟩ = some (.int .i64 p.join) := hpc 0 _ rfl
    have pt : w.cell? ⟨pb, po + n * 2 + 1, none⟩ = some tv := hpc 1 _ rfl
    obtain ⟨ta, tc, rfl, htc1, htc2⟩ := TestsAt.form hpt
    unfold maxLen at htc2
    have HT := Lib.hid hpt
    have HV := Lib.hid hv
    have HP := Lib.hid hp
    have PJ := Lib.hid pj
    have hfew := hns.few
    clear hv hp hpp hpc hpt hin pj
    go_enter Tryd.func37, Tryd.ntmps37
    go_upto_block 0 with fail
    go_cut [] (fun wx => Hid (Kept (fun _ => False) w wx) ∧ Hid (mPart ns k p = true))
    case first =>
      go_wp2_with fail
      go_loopw [20] (fun i wr => ∃ j : Nat, j ≤ p.tests.length ∧ i = .int .i64 j ∧ Hid (Kept (fun _ => False) w wr) ∧ Hid ((p.tests.take j).all (mTest ns k) = true)) (fun i _ => p.tests.length - (intOf i).toNat)
      case atStart => exact ⟨0, by omega, rfl, Lib.hid (Kept.refl _ _), Lib.hid rfl⟩
      case round =>
        obtain ⟨j, hj, rfl, HK, HJ⟩ := hrel
        obtain ⟨wr0, hwr0⟩ : ∃ x, x = wr := ⟨_, rfl⟩
        subst hwr0
        by_cases hlt : j < p.tests.length
        · have hx := List.getElem?_eq_getElem hlt
          generalize hgx : p.tests[j] = t at hx
          clear hgx
          obtain ⟨tb, to_, rfl, t0, t1, t2⟩ := TestsAt.at (tests_firm.kept HT.out HK.out) hx
          have HX := Lib.hid hx
          clear hx
          go_upto_region 4 with fail
          obtain ⟨wa, HWA⟩ : ∃ x', Hid (wr0.alloc (.cells #[.int .i64 t.kind, .string (str t.name), .string (str t.val)] 42 (0, 0)) = x') := ⟨_, rfl⟩
          have ka : Kept (fun _ => False) wr0 wa := by rw [← HWA.out]; exact (Kept.refl _ wr0).alloc _
          have hh : wa.heap[wr0.heap.size]? = some (.cells #[.int .i64 t.kind, .string (str t.name), .string (str t.val)] 42 (0, 0)) := by rw [← HWA.out]; exact newIn wr0 _
          have d0 : wa.cell? ⟨wr0.heap.size, 0, none⟩ = some (.int .i64 t.kind) := cellIn hh 0 rfl
          have d1 : wa.cell? ⟨wr0.heap.size, 1, none⟩ = some (.string (str t.name)) := cellIn hh 1 rfl
          have d2 : wa.cell? ⟨wr0.heap.size, 2, none⟩ = some (.string (str t.val)) := cellIn hh 2 rfl
          have KA := Lib.hid (HK.out.trans ka)
          rw [HWA.out]
          have HTS := rtest_any wa _ ns k (nodes_firm.kept HV.out KA.out) hkl hns.short hns.few t
          clear t0 t1 t2 ka hh
          cases htst : mTest ns k t with
          | false =>
            rw [htst] at HTS
            have HTS := Lib.hid HTS
            have hr : Hid (false = r) := Lib.hid (by
              rw [← hR.out]
              have : mPart ns k p = false := by
                unfold mPart
                rw [List.all_eq_false]
                exact ⟨t, List.mem_of_getElem? HX.out, by simp [htst]⟩
              rw [this]; rfl)
            clear htst
            go_wp2_with (go_at_call 34; refine HTS.out.mono ?_; rintro e w2 ⟨rfl, hk2⟩)
            go_ret
            exact ⟨retb hr.out, KA.out.trans hk2⟩
          | true =>
            rw [htst] at HTS
            have HTS := Lib.hid HTS
            have HTT := Lib.hid htst
            clear htst
            go_wp2_with (go_at_call 34; refine HTS.out.mono ?_; rintro e w2 ⟨rfl, hk2⟩)
            go_roundw
            case measure => simp [intOf]; omega
            case rel =>
              refine ⟨j + 1, by omega, by go_num, Lib.hid (KA.out.trans hk2), Lib.hid ?_⟩
              rw [List.take_add_one, HX.out, Option.toList_some, List.all_append, HJ.out]
              simp [HTT.out]
        · obtain rfl : j = p.tests.length := by omega
          have hall : Hid (mPart ns k p = true) := Lib.hid (by have := HJ.out; rw [List.take_length] at this; exact this)
          go_wp2_with fail
          go_meet
          case rel => exact ⟨HK, hall⟩
    case rest =>
      obtain ⟨HK2, HALL⟩ := hcut
      have hR2 : Hid (((s.take n).reverse.isEmpty || mJoin ns p.join q k) = r) := Lib.hid (by rw [← hR.out, HALL.out]; simp)
      have pj2 := HK2.out.cell id PJ.out
      have HV2 := Lib.hid (nodes_firm.kept HV.out HK2.out)
      have HP2 := Lib.hid (parts_firm.kept HP.out HK2.out)
      have g : ((n : Int) == 0) = false := by have := HNN.out; simp; omega
      have hne : (s.take n).reverse.isEmpty = false := by
        rw [List.isEmpty_eq_false_iff]
        intro h
        have h2 : (s.take n).reverse.length = n := by rw [List.length_reverse, List.length_take]; omega
        rw [h] at h2
        have := HNN.out
        simp at h2; omega
      have hR3 : Hid (mJoin ns p.join q k = r) := Lib.hid (by rw [← hR2.out, hne]; simp)
      have IH2 : Hid (∀ (w : World) (k : Nat), k < ns.length → NodesAt w (.slice na ns.length ncap) ns → PartsAt w (.slice (some ⟨pb, po, none⟩) (List.length s) pcap) s →
          Calls Tryd.prog 37 #[.slice na ns.length ncap, .int .i64 (k : Int), .slice (some ⟨pb, po, none⟩) (List.length s) pcap, .int .i64 ((n : Int) - 1)] w (AtEnds w (q (k : Int)))) := Lib.hid (by
        intro w k h0 h1 h2
        have := IH.out (by have := HNN.out; omega) w _ _ k h0 h1 h2
        rw [show n0 + 1 = n from HNN.out, HQ.out] at this
        rw [show (n : Int) - 1 = (n0 : Int) from by have := HNN.out; omega]; exact this)
      have hx := List.getElem?_eq_getElem hkl
      generalize hgx : ns[k] = x at hx
      clear hgx
      have HX := Lib.hid hx
      have hpf := hns.fit x (List.mem_of_getElem? hx)
      have hpo : Hid (parentOf ns k = x.parent) := Lib.hid (parentOf_at hx)
      have hqo : Hid (∀ z : Int, inR ns z = false → q z = false) := Lib.hid (fun z hz => by rw [← HQ.out]; exact mAt_out hz)
      clear hx hne
      by_cases hj2 : p.join = 2
      · have e2 : (p.join == 2) = true := by simp [hj2]
        have hr : Hid (q x.parent = r) := Lib.hid (by rw [← hR3.out, ← hpo.out]; unfold mJoin; rw [if_pos hj2])
        clear hj2
        obtain ⟨nb, noff, av, rfl, g0, g1, g2, g3, g4, g5, hav⟩ := HV2.out.at HX.out
        clear g0 g2 g3 g4 g5 hav
        by_cases hu0 : x.parent < 0
        · have hr2 : Hid (false = r) := Lib.hid (by rw [← hr.out, hqo.out _ (by simp [inR]; omega)])
          go_wp2_with fail
          go_ret
          exact ⟨retb hr2.out, HK2.out⟩
        · by_cases hu1 : (ns.length : Int) ≤ x.parent
          · have hr2 : Hid (false = r) := Lib.hid (by rw [← hr.out, hqo.out _ (by simp [inR]; omega)])
            go_wp2_with fail
            go_ret
            exact ⟨retb hr2.out, HK2.out⟩
          · obtain ⟨u, HU⟩ : ∃ u : Nat, Hid (x.parent = (u : Int)) := ⟨x.parent.toNat, Lib.hid (by omega)⟩
            have hul : u < ns.length := by have := HU.out; omega
            rw [HU.out] at g1 hr hu0 hu1
            go_wp2_with (go_at_call 37; refine (IH2.out _ u hul HV2.out HP2.out).mono ?_; rintro e w3 ⟨rfl, hk3⟩)
            go_ret
            exact ⟨retb hr.out, HK2.out.trans hk3⟩
      · have e2 : (p.join == 2) = false := by simp [hj2]
        by_cases hj3 : p.join = 3
        · have e3 : (p.join == 3) = true := by simp [hj3]
          have hr : Hid (q (pAhead ns (k : Int)) = r) := Lib.hid (by rw [← hR3.out]; unfold mJoin; rw [if_neg hj2, if_pos hj3])
          have haf := ahead_fits ns (k : Int) hns.few
          have hal := ahead_in ns (k : Int)
          clear hj2 hj3
          generalize hag : pAhead ns (k : Int) = ag at *
          have HAH := rahead_any _ _ ns (k : Int) HV2.out (by omega)
          rw [hag] at HAH
          have HAH := Lib.hid HAH
          clear hag
          go_upto_region 15 with (go_at_call 35; refine HAH.out.mono ?_; rintro e w3 ⟨rfl, hq3⟩)
          have hk3 := hq3.kept (fun _ => False)
          have HV3 := Lib.hid (nodes_firm.kept HV2.out hk3)
          have HP3 := Lib.hid (parts_firm.kept HP2.out hk3)
          have HK3 := Lib.hid (HK2.out.trans hk3)
          clear hq3 hk3
          by_cases ha0 : ag < 0
          · have hr2 : Hid (false = r) := Lib.hid (by rw [← hr.out, hqo.out _ (by simp [inR]; omega)])
            go_wp2_with fail
            go_ret
            exact ⟨retb hr2.out, HK3.out⟩
          · obtain ⟨u, rfl⟩ : ∃ u : Nat, ag = (u : Int) := ⟨ag.toNat, by omega⟩
            have hul : u < ns.length := by omega
            go_wp2_with (go_at_call 37; refine (IH2.out _ u hul HV3.out HP3.out).mono ?_; rintro e w4 ⟨rfl, hk4⟩)
            go_ret
            exact ⟨retb hr.out, HK3.out.trans hk4⟩
        · have e3 : (p.join == 3) = false := by simp [hj3]
          by_cases hj1 : p.join = 1
          · have e1 : (p.join == 1) = true := by simp [hj1]
            have hr : Hid ((ups ns k).any (fun u => q (u : Int)) = r) := Lib.hid (by rw [← hR3.out]; unfold mJoin; rw [if_neg hj2, if_neg hj3, if_pos hj1])
            clear hj1 hj2 hj3
            go_wp2_with fail
            go_loopw [13] (fun u wr => ∃ z : Nat, u = .int .i64 (z : Int) ∧ z < ns.length ∧ Hid (Kept (fun _ => False) wc wr) ∧ Hid ((ups ns z).any (fun u => q (u : Int)) = r)) (fun u _ => (intOf u).toNat)
            case atStart => exact ⟨k, rfl, hkl, Lib.hid (Kept.refl _ _), hr⟩
            case round =>
              obtain ⟨z, rfl, hzl, HKZ, HU⟩ := hrel
              have hy := List.getElem?_eq_getElem hzl
              generalize hgy : ns[z] = y at hy
              clear hgy
              have hyf := hns.fit y (List.mem_of_getElem? hy)
              have hyo : Hid (parentOf ns z = y.parent) := Lib.hid (parentOf_at hy)
              have hvr := nodes_firm.kept HV2.out HKZ.out
              obtain ⟨nb2, noff2, av2, rfl, _, y1, _⟩ := hvr.at hy
              have HVR := Lib.hid hvr
              have HPR := Lib.hid (parts_firm.kept HP2.out HKZ.out)
              clear hy hvr
              by_cases h0 : y.parent < 0
              · have hr2 : Hid (false = r) := Lib.hid (by rw [← HU.out, ups_eq, hyo.out, if_neg (by omega)]; rfl)
                go_wp2_with fail
                go_ret
                exact ⟨retb hr2.out, HK2.out.trans HKZ.out⟩
              · by_cases h1 : (z : Int) ≤ y.parent
                · have hr2 : Hid (false = r) := Lib.hid (by rw [← HU.out, ups_eq, hyo.out, if_neg (by omega)]; rfl)
                  go_wp2_with fail
                  go_ret
                  exact ⟨retb hr2.out, HK2.out.trans HKZ.out⟩
                · obtain ⟨u, HUU⟩ : ∃ u : Nat, Hid (y.parent = (u : Int)) := ⟨y.parent.toNat, Lib.hid (by omega)⟩
                  have hul : u < z := by have := HUU.out; omega
                  have hR4 : Hid ((q (u : Int) || (ups ns u).any (fun u => q (u : Int))) = r) := Lib.hid (by
                    rw [← HU.out, ups_eq ns z, hyo.out, HUU.out, if_pos (by omega), Int.toNat_natCast, List.any_cons])
                  rw [HUU.out] at y1 h0 h1 hyf
                  have HCALL := Lib.hid (IH2.out wr u (by omega) HVR.out HPR.out)
                  cases hq : q (u : Int) with
                  | true =>
                    rw [hq] at HCALL hR4
                    have hrr : Hid (true = r) := Lib.hid (by rw [← hR4.out]; rfl)
                    clear hq
                    go_wp2_with (go_at_call 37; refine HCALL.out.mono ?_; rintro e w3 ⟨rfl, hk3⟩)
                    go_ret
                    exact ⟨retb hrr.out, (HK2.out.trans HKZ.out).trans hk3⟩
                  | false =>
                    rw [hq] at HCALL hR4
                    clear hq
                    go_wp2_with (go_at_call 37; refine HCALL.out.mono ?_; rintro e w3 ⟨rfl, hk3⟩)
                    go_roundw
                    case measure => simp [intOf]; omega
                    case rel => exact ⟨u, rfl, by omega, Lib.hid (HKZ.out.trans hk3), Lib.hid (by rw [← hR4.out]; simp)⟩
          · have e1 : (p.join == 1) = false := by simp [hj1]
            have hr : Hid (false = r) := Lib.hid (by rw [← hR3.out]; unfold mJoin; rw [if_neg hj2, if_neg hj3, if_neg hj1])
            clear hj1 hj2 hj3
            go_wp2_with fail
            go_ret
            exact ⟨retb hr.out, HK2.out⟩
end Go.Proofs.YtplbdlgmjehckaaDoor
