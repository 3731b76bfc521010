/-
  Lemmas for the claims of this seat: the program's functions walked, and plain laws. In this order: ShTest ShTests ShMem ShSel.
-/
import Derived.Test.YtplbdlgmjehckadGreatDoorPk9
import Derived.Deep.AppendLies
import Derived.Deep.LoopGhost
namespace Go.Proofs.YtplbdlgmjehckadGreatDoor
open Go.RowKit
set_option linter.unusedVariables false
set_option linter.unusedSimpArgs false
def noTest : PTest := ⟨0, [], []⟩
def testV (t : Option PTest) : Value := .tuple #[.agg (testCells (t.getD noTest)).toArray, .bool t.isSome]
theorem attrTest_name {l nm l1 : B} {a a1 : Nat} (h : sName l a = .ok (nm, l1, a1)) (hn : nm ≠ styleName) : sAttrTest l a =
    if ([61] : B).isPrefixOf l1 then (sName (l1.drop 1) (a1 + 1)).then fun x => (pMust [93] x.2.1 x.2.2).then fun y => .ok ((⟨5, nm, x.1⟩ : PTest), y.1, y.2)
    else (pMust [93] l1 a1).then fun y => .ok ((⟨4, nm, []⟩ : PTest), y.1, y.2) := by
  unfold sAttrTest; rw [h, Ans.ok_then]; simp only; rw [if_neg hn]
theorem attrTest_style {l l1 : B} {a a1 : Nat} (h : sName l a = .ok (styleName, l1, a1)) : sAttrTest l a = .bad ⟨1, a1⟩ := by
  unfold sAttrTest; rw [h, Ans.ok_then]; simp
theorem attrTest_bad {l : B} {a : Nat} {f : Flt} (h : sName l a = .bad f) : sAttrTest l a = .bad f := by unfold sAttrTest; rw [h]; rfl
set_option maxRecDepth 100000 in
set_option maxHeartbeats 3200000 in
theorem stest_sum (w : World) (b : Nat) (s : B) (at_ : Nat) (h : SdAt w b s at_) :
    Calls Tryz.prog 136 #[.pointer (some ⟨b, 0, none⟩)] w (SSum (sTest (s.drop at_) at_) w b s (fun _ t e => e = .returned (testV t))) := by
  obtain ⟨r, HR⟩ : ∃ r, Hid (sTest (s.drop at_) at_ = r) := ⟨_, rfl⟩
  rw [HR.out]
  obtain ⟨nb, HNB⟩ : ∃ nb, Hid (w.heap.size = nb) := ⟨_, rfl⟩
  obtain ⟨wa, HWA⟩ : ∃ wa, Hid (w.alloc (.cells #[.int .i64 0, .string ⟨#[]⟩, .string ⟨#[]⟩] 195 (0, 0)) = wa) := ⟨_, rfl⟩
  have H : Hid (SdAt wa b s at_) := Lib.hid (by rw [← HWA.out]; exact h.alloc _)
  have HK : Hid (Kept (· = b) w wa) := Lib.hid (by rw [← HWA.out]; exact (Kept.refl _ _).alloc _)
  have HN : Hid (wa.heap[nb]? = some (.cells #[.int .i64 0, .string ⟨#[]⟩, .string ⟨#[]⟩] 195 (0, 0))) := Lib.hid (by rw [← HWA.out, ← HNB.out]; exact newIn _ _)
  have hnb : ¬ nb = b := by have := h.lt; have := HNB.out; omega
  have hl := h.2.1
  have hmx := h.2.2
  clear h
  go_enter Tryz.func136, Tryz.ntmps136
  go_wp2_with fail
  rw [HWA.out, HNB.out]
  cases p1 : ([46] : B).isPrefixOf (s.drop at_) with
  | true =>
    refine (seat_is true [46] _ _ _ _ H.out p1).mono ?_
    rintro e w1 ⟨rfl, hk1, h1⟩
    have h1' : SdAt w1 b s (at_ + 1) := h1
    have HE : Hid (((sName (s.drop (at_ + 1)) (at_ + 1)).then fun x => Ans.ok (some (⟨2, x.1, []⟩ : PTest), x.2.1, x.2.2)) = r) := Lib.hid (by rw [← HR.out]; unfold sTest; rw [if_pos p1, List.drop_drop])
    have H1 := Lib.hid h1'
    have K1 := Lib.hid (HK.out.trans hk1)
    have N1 := Lib.hid (hk1.heap hnb HN.out)
    clear p1 hk1 h1 h1'
    go_wp2_with fail
    refine (sname_sum _ _ _ _ H1.out).mono ?_
    rintro e w2 (⟨f, rfl, hk2, hp2⟩ | ⟨nm, at2, rfl, hk2, h2, hp2⟩)
    · have hR : Hid (r = .bad f) := Lib.hid (by rw [← HE.out, hp2.out]; rfl)
      have K2 := Lib.hid (K1.out.trans hk2)
      clear hk2
      go_wp2_with fail
      exact ⟨rfl, .bad K2.out hR.out⟩
    · have hR : Hid (r = .ok (some ⟨2, nm, []⟩, s.drop at2, at2)) := Lib.hid (by rw [← HE.out, hp2.out]; rfl)
      have K2 := Lib.hid (K1.out.trans hk2)
      have H2 := Lib.hid h2
      have hn2 := hk2.heap hnb N1.out
      have N2 := Lib.hid hn2
      have n0 := cellIn hn2 0 rfl
      have n1 := cellIn hn2 1 rfl
      have n2 := cellIn hn2 2 rfl
      have nf0 := freeIn hn2 0
      have nf1 := freeIn hn2 1
      have nf2 := freeIn hn2 2
      clear hk2 h2 hn2
      go_wp2_with fail
      refine bodyPost_ret (v := testV (some ⟨2, nm, []⟩)) (by simp [results, Tryz.results136, go_sem, n0, n1, n2, testV, testCells]; rfl) rfl ?_
      exact .inr ⟨_, at2, rfl, keep3 (by have := HNB.out; omega) K2.out _ _ _, ((H2.out.other (by exact fun h => hnb h.symm)).other (by exact fun h => hnb h.symm)).other (by exact fun h => hnb h.symm), hR⟩
  | false =>
    have P1 := Lib.hid p1
    refine (seat_no [46] _ _ _ _ H.out p1).mono ?_
    rintro e w0 ⟨rfl, hq0⟩
    have H0 := Lib.hid (H.out.quiet hq0)
    have HK0 := Lib.hid (HK.out.trans ((show Qt wa w0 from hq0).kept _))
    have HN0 := Lib.hid (((show Qt wa w0 from hq0).kept (· = b)).heap hnb HN.out)
    clear p1 hq0 H HK HN
    have H := H0
    have HK := HK0
    have HN := HN0
    clear H0 HK0 HN0
    go_wp2_with fail
    cases p1 : ([35] : B).isPrefixOf (s.drop at_) with
    | true =>
      refine (seat_is true [35] _ _ _ _ H.out p1).mono ?_
      rintro e w1 ⟨rfl, hk1, h1⟩
      have h1' : SdAt w1 b s (at_ + 1) := h1
      have HE : Hid (((sName (s.drop (at_ + 1)) (at_ + 1)).then fun x => Ans.ok (some (⟨3, x.1, []⟩ : PTest), x.2.1, x.2.2)) = r) := Lib.hid (by rw [← HR.out]; unfold sTest; rw [P1.out, if_neg (by simp)]; rw [if_pos p1, List.drop_drop])
      have H1 := Lib.hid h1'
      have K1 := Lib.hid (HK.out.trans hk1)
      have N1 := Lib.hid (hk1.heap hnb HN.out)
      clear p1 hk1 h1 h1'
      go_wp2_with fail
      refine (sname_sum _ _ _ _ H1.out).mono ?_
      rintro e w2 (⟨f, rfl, hk2, hp2⟩ | ⟨nm, at2, rfl, hk2, h2, hp2⟩)
      · have hR : Hid (r = .bad f) := Lib.hid (by rw [← HE.out, hp2.out]; rfl)
        have K2 := Lib.hid (K1.out.trans hk2)
        clear hk2
        go_wp2_with fail
        exact ⟨rfl, .bad K2.out hR.out⟩
      · have hR : Hid (r = .ok (some ⟨3, nm, []⟩, s.drop at2, at2)) := Lib.hid (by rw [← HE.out, hp2.out]; rfl)
        have K2 := Lib.hid (K1.out.trans hk2)
        have H2 := Lib.hid h2
        have hn2 := hk2.heap hnb N1.out
        have N2 := Lib.hid hn2
        have n0 := cellIn hn2 0 rfl
        have n1 := cellIn hn2 1 rfl
        have n2 := cellIn hn2 2 rfl
        have nf0 := freeIn hn2 0
        have nf1 := freeIn hn2 1
        have nf2 := freeIn hn2 2
        clear hk2 h2 hn2
        go_wp2_with fail
        refine bodyPost_ret (v := testV (some ⟨3, nm, []⟩)) (by simp [results, Tryz.results136, go_sem, n0, n1, n2, testV, testCells]; rfl) rfl ?_
        exact .inr ⟨_, at2, rfl, keep3 (by have := HNB.out; omega) K2.out _ _ _, ((H2.out.other (by exact fun h => hnb h.symm)).other (by exact fun h => hnb h.symm)).other (by exact fun h => hnb h.symm), hR⟩
    | false =>
      have P2 := Lib.hid p1
      obtain ⟨w0_, hw0⟩ : ∃ x, x = w0 := ⟨_, rfl⟩
      subst hw0
      refine (seat_no [35] _ _ _ _ H.out p1).mono ?_
      rintro e w0 ⟨rfl, hq0⟩
      have H0 := Lib.hid (H.out.quiet hq0)
      have HK0 := Lib.hid (HK.out.trans ((show Qt w0_ w0 from hq0).kept _))
      have HN0 := Lib.hid (((show Qt w0_ w0 from hq0).kept (· = b)).heap hnb HN.out)
      clear p1 hq0 H HK HN
      have H := H0
      have HK := HK0
      have HN := HN0
      clear H0 HK0 HN0
      go_wp2_with fail
      cases p1 : firstWord.isPrefixOf (s.drop at_) with
      | true =>
        refine (seat_is true firstWord _ _ _ _ H.out p1).mono ?_
        rintro e w1 ⟨rfl, hk1, h1⟩
        have hR : Hid (r = .ok (some ⟨6, [], []⟩, s.drop (at_ + 6), at_ + 6)) := Lib.hid (by rw [← HR.out]; unfold sTest; rw [P1.out, if_neg (by simp), P2.out, if_neg (by simp), if_pos p1, List.drop_drop])
        have K2 := Lib.hid (HK.out.trans hk1)
        have H2 : Hid (SdAt w1 b s (at_ + 6)) := Lib.hid h1
        have hn2 := hk1.heap hnb HN.out
        have n0 := cellIn hn2 0 rfl
        have n1 := cellIn hn2 1 rfl
        have n2 := cellIn hn2 2 rfl
        have nf0 := freeIn hn2 0
        have nf1 := freeIn hn2 1
        have nf2 := freeIn hn2 2
        clear p1 hk1 h1 hn2
        go_wp2_with fail
        refine bodyPost_ret (v := testV (some ⟨6, [], []⟩)) (by simp [results, Tryz.results136, go_sem, n0, n1, n2, testV, testCells]; rfl) rfl ?_
        exact .inr ⟨_, at_ + 6, rfl, keep3 (by have := HNB.out; omega) K2.out _ _ _, ((H2.out.other (by exact fun h => hnb h.symm)).other (by exact fun h => hnb h.symm)).other (by exact fun h => hnb h.symm), hR⟩
      | false =>
        have P3 := Lib.hid p1
        obtain ⟨w0__, hw0⟩ : ∃ x, x = w0 := ⟨_, rfl⟩
        subst hw0
        refine (seat_no firstWord _ _ _ _ H.out p1).mono ?_
        rintro e w0 ⟨rfl, hq0⟩
        have H0 := Lib.hid (H.out.quiet hq0)
        have HK0 := Lib.hid (HK.out.trans ((show Qt w0__ w0 from hq0).kept _))
        have HN0 := Lib.hid (((show Qt w0__ w0 from hq0).kept (· = b)).heap hnb HN.out)
        clear p1 hq0 H HK HN
        have H := H0
        have HK := HK0
        have HN := HN0
        clear H0 HK0 HN0
        go_wp2_with fail
        cases p1 : ([91] : B).isPrefixOf (s.drop at_) with
        | true =>
          refine (seat_is true [91] _ _ _ _ H.out p1).mono ?_
          rintro e w1 ⟨rfl, hk1, h1⟩
          have h1' : SdAt w1 b s (at_ + 1) := h1
          have HE : Hid (((sAttrTest (s.drop (at_ + 1)) (at_ + 1)).then fun x => Ans.ok (some x.1, x.2.1, x.2.2)) = r) := Lib.hid (by
            rw [← HR.out]; unfold sTest; rw [P1.out, if_neg (by simp), P2.out, if_neg (by simp), P3.out, if_neg (by simp), if_pos p1, List.drop_drop])
          have H1 := Lib.hid h1'
          have K1 := Lib.hid (HK.out.trans hk1)
          have N1 := Lib.hid (hk1.heap hnb HN.out)
          clear p1 hk1 h1 h1'
          go_wp2_with fail
          refine (sname_sum _ _ _ _ H1.out).mono ?_
          rintro e w2 (⟨f, rfl, hk2, hp2⟩ | ⟨nm, at2, rfl, hk2, h2, hp2⟩)
          · have hR : Hid (r = .bad f) := Lib.hid (by rw [← HE.out, attrTest_bad hp2.out]; rfl)
            have K2 := Lib.hid (K1.out.trans hk2)
            clear hk2
            go_wp2_with fail
            exact ⟨rfl, .bad K2.out hR.out⟩
          · have K2 := Lib.hid (K1.out.trans hk2)
            have H2 := Lib.hid h2
            have N2 := Lib.hid (hk2.heap hnb N1.out)
            clear hk2 h2
            by_cases hst : nm = styleName
            · subst hst
              have hR : Hid (r = .bad ⟨1, at2⟩) := Lib.hid (by rw [← HE.out, attrTest_style hp2.out]; rfl)
              go_wp2_with fail
              refine (sfail_any 1 _ _ _ _ (H2.out.alloc _)).mono ?_
              rintro e w3 ⟨rfl, hq3⟩
              go_wp2_with fail
              exact ⟨rfl, .bad ((K2.out.alloc _).trans (hq3.kept _)) hR.out⟩
            · have hsb : (nm == [115, 116, 121, 108, 101]) = false := by rw [beq_eq_false_iff_ne]; exact hst
              obtain ⟨nb2, HNB2⟩ : ∃ n2, Hid (w2.heap.size = n2) := ⟨_, rfl⟩
              obtain ⟨wb, HWB⟩ : ∃ wb, Hid (w2.alloc (.cells #[.int .i64 4, .string (str nm), .string ⟨#[]⟩] 195 (0, 0)) = wb) := ⟨_, rfl⟩
              have H3 : Hid (SdAt wb b s at2) := Lib.hid (by rw [← HWB.out]; exact H2.out.alloc _)
              have K3 : Hid (Kept (· = b) w wb) := Lib.hid (by rw [← HWB.out]; exact K2.out.alloc _)
              have N3 : Hid (wb.heap[nb]? = some (.cells #[.int .i64 0, .string ⟨#[]⟩, .string ⟨#[]⟩] 195 (0, 0))) := Lib.hid (by rw [← HWB.out]; exact oldIn N2.out _)
              have M3 : Hid (wb.heap[nb2]? = some (.cells #[.int .i64 4, .string (str nm), .string ⟨#[]⟩] 195 (0, 0))) := Lib.hid (by rw [← HWB.out, ← HNB2.out]; exact newIn _ _)
              have hnn : ¬ nb = nb2 := by have := HNB2.out; have := ltIn N2.out; omega
              have hnb2 : ¬ nb2 = b := by have := HNB2.out; have := H2.out.lt; omega
              have hw2 : w.heap.size ≤ nb2 := by have := HNB2.out; have := K2.out.size; omega
              go_wp2_with fail
              rw [HWB.out, HNB2.out]
              clear HWB HNB2 H2 K2 N2
              cases p2 : ([61] : B).isPrefixOf (s.drop at2) with
              | true =>
                refine (seat_is true [61] _ _ _ _ H3.out p2).mono ?_
                rintro e w4 ⟨rfl, hk4, h4⟩
                have h4' : SdAt w4 b s (at2 + 1) := h4
                have HE2 : Hid (((sName (s.drop (at2 + 1)) (at2 + 1)).then fun x => (pMust [93] x.2.1 x.2.2).then fun y => Ans.ok (some (⟨5, nm, x.1⟩ : PTest), y.1, y.2)) = r) := Lib.hid (by
                  rw [← HE.out, attrTest_name hp2.out hst, if_pos p2, List.drop_drop]
                  cases sName (s.drop (at2 + 1)) (at2 + 1) with
                  | bad f => rfl
                  | ok x =>
                    simp only [Ans.ok_then]
                    cases pMust [93] x.2.1 x.2.2 <;> rfl)
                have H4 := Lib.hid h4'
                have K4 := Lib.hid (K3.out.trans hk4)
                have N4 := Lib.hid (hk4.heap hnb N3.out)
                have M4 := Lib.hid (hk4.heap hnb2 M3.out)
                have HP2 := Lib.hid p2
                clear p2 hk4 h4 h4'
                go_wp2_with fail
                refine (sname_sum _ _ _ _ H4.out).mono ?_
                rintro e w5 (⟨f, rfl, hk5, hp5⟩ | ⟨v, at5, rfl, hk5, h5, hp5⟩)
                · have hR : Hid (r = .bad f) := Lib.hid (by rw [← HE2.out, hp5.out]; rfl)
                  have K5 := Lib.hid (K4.out.trans hk5)
                  clear hk5
                  go_wp2_with fail
                  exact ⟨rfl, .bad K5.out hR.out⟩
                · have HE3 : Hid (((pMust [93] (s.drop at5) at5).then fun y => Ans.ok (some (⟨5, nm, v⟩ : PTest), y.1, y.2)) = r) := Lib.hid (by rw [← HE2.out, hp5.out]; rfl)
                  have K5 := Lib.hid (K4.out.trans hk5)
                  have H5 := Lib.hid h5
                  have N5 := Lib.hid (hk5.heap hnb N4.out)
                  have M5 := Lib.hid (hk5.heap hnb2 M4.out)
                  have m0 := cellIn M5.out 0 rfl
                  have m2 := cellIn M5.out 2 rfl
                  have mf0 := freeIn M5.out 0
                  have mf2 := freeIn M5.out 2
                  clear hk5 h5
                  go_wp2_with fail
                  have HA := Lib.hid ((H5.out.other (p := ⟨nb2, 0, none⟩) (x := .int .i64 5) (by exact fun h => hnb2 h.symm)).other (p := ⟨nb2, 2, none⟩) (x := .string (str v)) (by exact fun h => hnb2 h.symm))
                  have KA := Lib.hid ((K5.out.setCell (p := ⟨nb2, 0, none⟩) (.inr hw2) (.int .i64 5)).setCell (p := ⟨nb2, 2, none⟩) (.inr hw2) (.string (str v)))
                  have NA := Lib.hid (otherIn (otherIn N5.out ⟨nb2, 0, none⟩ (.int .i64 5) hnn) ⟨nb2, 2, none⟩ (.string (str v)) hnn)
                  have MA : Hid (((w5.setCell ⟨nb2, 0, none⟩ (.int .i64 5)).setCell ⟨nb2, 2, none⟩ (.string (str v))).heap[nb2]? = some (.cells #[.int .i64 5, .string (str nm), .string (str v)] 195 (0, 0))) := Lib.hid (by
                    have := setIn (setIn M5.out 0 (.int .i64 5)) 2 (.string (str v))
                    simpa using this)
                  clear m0 m2 mf0 mf2
                  generalize ((w5.setCell ⟨nb2, 0, none⟩ (.int .i64 5)).setCell ⟨nb2, 2, none⟩ (.string (str v))) = w6 at *
                  refine (smust_sum [93] _ _ _ _ HA.out).mono ?_
                  rintro e w7 (⟨f, rfl, hk7, hp7⟩ | ⟨at7, rfl, hk7, h7, hp7⟩)
                  · have hR : Hid (r = .bad f) := Lib.hid (by rw [← HE3.out, hp7.out]; rfl)
                    have K7 := Lib.hid (KA.out.trans hk7)
                    clear hk7
                    go_wp2_with fail
                    exact ⟨rfl, .bad K7.out hR.out⟩
                  · have hR : Hid (r = .ok (some ⟨5, nm, v⟩, s.drop at7, at7)) := Lib.hid (by rw [← HE3.out, hp7.out]; rfl)
                    have K7 := Lib.hid (KA.out.trans hk7)
                    have H7 := Lib.hid h7
                    have hn7 := hk7.heap hnb NA.out
                    have hm7 := hk7.heap hnb2 MA.out
                    have n0 := cellIn hn7 0 rfl
                    have n1 := cellIn hn7 1 rfl
                    have n2 := cellIn hn7 2 rfl
                    have nf0 := freeIn hn7 0
                    have nf1 := freeIn hn7 1
                    have nf2 := freeIn hn7 2
                    have m0 := cellIn hm7 0 rfl
                    have m1 := cellIn hm7 1 rfl
                    have m2 := cellIn hm7 2 rfl
                    clear hk7 h7 hn7 hm7
                    go_wp2_with fail
                    refine bodyPost_ret (v := testV (some ⟨5, nm, v⟩)) (by simp [results, Tryz.results136, go_sem, n0, n1, n2, testV, testCells]; try rfl) rfl ?_
                    exact .inr ⟨_, at7, rfl, keep3 (by have := HNB.out; omega) K7.out _ _ _, ((H7.out.other (by exact fun h => hnb h.symm)).other (by exact fun h => hnb h.symm)).other (by exact fun h => hnb h.symm), hR⟩
              | false =>
                have HE3 : Hid (((pMust [93] (s.drop at2) at2).then fun y => Ans.ok (some (⟨4, nm, []⟩ : PTest), y.1, y.2)) = r) := Lib.hid (by
                  rw [← HE.out, attrTest_name hp2.out hst, p2, if_neg (by simp)]
                  cases pMust [93] (s.drop at2) at2 <;> rfl)
                refine (seat_no [61] _ _ _ _ H3.out p2).mono ?_
                rintro e w4 ⟨rfl, hq4⟩
                have hqk : Kept (· = b) wb w4 := (show Qt wb w4 from hq4).kept _
                have HA := Lib.hid (H3.out.quiet hq4)
                have KA := Lib.hid (K3.out.trans hqk)
                have NA := Lib.hid (hqk.heap hnb N3.out)
                have MA := Lib.hid (hqk.heap hnb2 M3.out)
                clear p2 hq4 hqk
                go_wp2_with fail
                refine (smust_sum [93] _ _ _ _ HA.out).mono ?_
                rintro e w7 (⟨f, rfl, hk7, hp7⟩ | ⟨at7, rfl, hk7, h7, hp7⟩)
                · have hR : Hid (r = .bad f) := Lib.hid (by rw [← HE3.out, hp7.out]; rfl)
                  have K7 := Lib.hid (KA.out.trans hk7)
                  clear hk7
                  go_wp2_with fail
                  exact ⟨rfl, .bad K7.out hR.out⟩
                · have hR : Hid (r = .ok (some ⟨4, nm, []⟩, s.drop at7, at7)) := Lib.hid (by rw [← HE3.out, hp7.out]; rfl)
                  have K7 := Lib.hid (KA.out.trans hk7)
                  have H7 := Lib.hid h7
                  have hn7 := hk7.heap hnb NA.out
                  have hm7 := hk7.heap hnb2 MA.out
                  have n0 := cellIn hn7 0 rfl
                  have n1 := cellIn hn7 1 rfl
                  have n2 := cellIn hn7 2 rfl
                  have nf0 := freeIn hn7 0
                  have nf1 := freeIn hn7 1
                  have nf2 := freeIn hn7 2
                  have m0 := cellIn hm7 0 rfl
                  have m1 := cellIn hm7 1 rfl
                  have m2 := cellIn hm7 2 rfl
                  clear hk7 h7 hn7 hm7
                  go_wp2_with fail
                  refine bodyPost_ret (v := testV (some ⟨4, nm, []⟩)) (by simp [results, Tryz.results136, go_sem, n0, n1, n2, testV, testCells]; try rfl) rfl ?_
                  exact .inr ⟨_, at7, rfl, keep3 (by have := HNB.out; omega) K7.out _ _ _, ((H7.out.other (by exact fun h => hnb h.symm)).other (by exact fun h => hnb h.symm)).other (by exact fun h => hnb h.symm), hR⟩
        | false =>
          refine (seat_no [91] _ _ _ _ H.out p1).mono ?_
          rintro e w1 ⟨rfl, hq1⟩
          have hR : Hid (r = .ok (none, s.drop at_, at_)) := Lib.hid (by rw [← HR.out]; unfold sTest; rw [P1.out, if_neg (by simp), P2.out, if_neg (by simp), P3.out, if_neg (by simp), p1, if_neg (by simp)])
          have hqk : Kept (· = b) w0 w1 := (show Qt w0 w1 from hq1).kept _
          have K2 := Lib.hid (HK.out.trans hqk)
          have H2 := Lib.hid (H.out.quiet hq1)
          have hn2 := hqk.heap hnb HN.out
          have n0 := cellIn hn2 0 rfl
          have n1 := cellIn hn2 1 rfl
          have n2 := cellIn hn2 2 rfl
          have nf0 := freeIn hn2 0
          have nf1 := freeIn hn2 1
          have nf2 := freeIn hn2 2
          clear p1 hq1 hqk hn2
          go_wp2_with fail
          refine bodyPost_ret (v := testV none) (by simp [results, Tryz.results136, go_sem, n0, n1, n2, testV, testCells, noTest]; rfl) rfl ?_
          exact .inr ⟨_, at_, rfl, keep3 (by have := HNB.out; omega) K2.out _ _ _, ((H2.out.other (by exact fun h => hnb h.symm)).other (by exact fun h => hnb h.symm)).other (by exact fun h => hnb h.symm), hR⟩
end Go.Proofs.YtplbdlgmjehckadGreatDoor

namespace Go.Proofs.YtplbdlgmjehckadGreatDoor
open Go.RowKit
set_option linter.unusedVariables false
set_option linter.unusedSimpArgs false
theorem test_one (t : PTest) : ∀ u ∈ testCells t, u.oneCell' = true := by
  intro u hu
  simp only [testCells, List.mem_cons, List.not_mem_nil, or_false] at hu
  rcases hu with rfl | rfl | rfl <;> rfl
theorem sTestsL_step {f : Nat} {ts : List PTest} {q : Bool} {l : B} {a : Nat} {r : Ans (List PTest × B × Nat)} (h : sTestsL (f + 1) ts q l a = r) :
    ((sTest l a).then fun x => match x.1 with
    | none => if q then .ok (ts, l, a) else .bad ⟨2, a⟩
    | some t => if ts.length = 6 then .bad ⟨5, x.2.2⟩ else sTestsL f (ts ++ [t]) true x.2.1 x.2.2) = r := by
  rw [← h, sTestsL]
  cases sTest l a with
  | bad f => rfl
  | ok x =>
    obtain ⟨t, l1, a1⟩ := x
    cases t <;> rfl
structure TLoop (w wr : World) (b : Nat) (s : B) (base : Nat) (r : Ans (List PTest × B × Nat)) (l : Value) (ts : List PTest) (q : Bool) (at' : Nat) : Prop where
  rd : SdAt wr b s at'
  own : wr.ownsRow base 195 3 l ts.length (ts.map testCells).flatten
  few : ts.length ≤ 6
  kept : Kept (· = b) w wr
  rest : ∃ f, (s.drop at').length < f ∧ sTestsL f ts q (s.drop at') at' = r
set_option maxRecDepth 100000 in
set_option maxHeartbeats 3200000 in
theorem stests_sum (w : World) (b : Nat) (s : B) (at_ : Nat) (h : SdAt w b s at_) :
    Calls Tryz.prog 122 #[.pointer (some ⟨b, 0, none⟩)] w (SSum (sTests (s.drop at_) at_) w b s (fun w' ts e => ∃ v, e = .returned v ∧ TestsIn w' (fun k => k < w.heap.size) v ts)) := by
  obtain ⟨r, HR⟩ : ∃ r, Hid (sTests (s.drop at_) at_ = r) := ⟨_, rfl⟩
  rw [HR.out]
  obtain ⟨i0, hi0, hz0, hz1, hz2⟩ := info_parts info_test
  obtain ⟨base, HBASE⟩ : ∃ base, Hid (w.heap.size = base) := ⟨_, rfl⟩
  have hbb : b < base := by have := h.lt; have := HBASE.out; omega
  have H := Lib.hid h
  have hl := h.2.1
  have hmx := h.2.2
  clear h
  go_enter Tryz.func122, Tryz.ntmps122
  go_wp2_with fail
  obtain ⟨q0, HQ0⟩ : ∃ q0, Hid (([42] : B).isPrefixOf (s.drop at_) = q0) := ⟨_, rfl⟩
  refine (seat_is q0 [42] _ _ _ _ H.out HQ0.out).mono ?_
  rintro e w1 ⟨rfl, hk1, h1⟩
  obtain ⟨at1, HA1⟩ : ∃ a, Hid ((at_ + if q0 then ([42] : B).length else 0) = a) := ⟨_, rfl⟩
  rw [HA1.out] at h1
  have H1 := Lib.hid h1
  have HK1 := Lib.hid hk1
  have hl1 := h1.2.1
  obtain ⟨n0, HN0⟩ : ∃ n0, Hid ((!q0 && !(nameLen (s.drop at1) == 0)) = n0) := ⟨_, rfl⟩
  have c0 := h1.c0
  have c1 := h1.c1
  clear h1 hk1
  go_upto_region 3 with fail
  go_cut [3, 39] (fun l x wx => x = .bool n0 ∧ Qt w1 wx ∧ wx.ownsRow base 195 3 l 0 [])
  case first =>
    cases q0 with
    | true =>
      obtain rfl : n0 = false := by rw [← HN0.out]; rfl
      go_wp2_with fail
      go_quiet (fail)
      go_wp2_with fail
      go_meet
      case rel => exact ⟨rfl, ⟨_, rfl⟩, World.ownsRow_nil _ _ _ _⟩
    | false =>
      by_cases hlt : at1 < s.length
      · have e0 : decide ((at1 : Int) < (s.length : Int)) = true := by simp; omega
        have e5 : IntKind.i64.wrap ((at1 : Int) + 1) = (at1 : Int) + 1 := IntWalk.i64_in _ (by omega)
        have e6 : (0 : Int) ≤ (at1 : Int) + 1 := by omega
        have e7 : ((at1 : Int) + 1).toNat = at1 + 1 := by omega
        have e8 : (at1 : Int) + 1 ≤ (s.length : Int) := by omega
        have e9 : (at1 : Int) ≤ (at1 : Int) + 1 := by omega
        have HT : Hid (∀ x, x = 1 → named ((s.drop at1).take x) = n0) := Lib.hid (fun x hx => by
          subst hx
          rw [← HN0.out]
          by_cases h0 : nameLen (s.drop at1) = 0
          · have := named_take_no (l := s.drop at1) (by rw [h0, List.length_drop]; omega)
            rw [h0] at this
            simpa [h0] using this
          · rw [show (1 : Nat) = 0 + 1 from rfl, named_take (by omega) (by omega)]
            simp [h0])
        go_wp2_with fail
        go_quiet ((go_at_call 98; exact Calls.quiet_of_same (named_is n0 _ _ (HT.out _ (by omega)))))
        go_wp2_with fail
        go_meet
        case rel => exact ⟨rfl, ⟨_, rfl⟩, World.ownsRow_nil _ _ _ _⟩
      · have e0 : decide ((at1 : Int) < (s.length : Int)) = false := by simp; omega
        obtain rfl : n0 = false := by
          rw [← HN0.out, List.drop_eq_nil_of_le (by omega)]; rfl
        go_wp2_with fail
        go_quiet (fail)
        go_wp2_with fail
        go_meet
        case rel => exact ⟨rfl, ⟨_, rfl⟩, World.ownsRow_nil _ _ _ _⟩
  case rest =>
    obtain ⟨rfl, hq2, how⟩ := hcut
    have HOW := Lib.hid how
    clear how
    have H2 := Lib.hid (H1.out.quiet hq2)
    have HK2 := Lib.hid (HK1.out.trans (hq2.kept _))
    clear c0 c1 hq2
    have HE : Hid ((if n0 then (sName (s.drop at1) at1).then fun x => sTestsL (x.2.1.length + 1) [⟨1, x.1, []⟩] true x.2.1 x.2.2 else sTestsL ((s.drop at1).length + 1) [] q0 (s.drop at1) at1) = r) := Lib.hid (by
      rw [← HR.out, ← HN0.out, ← HA1.out]
      unfold sTests sHead
      have hq := HQ0.out
      cases q0 with
      | true => rw [if_pos hq]; simp
      | false =>
        rw [hq]
        by_cases h0 : nameLen (s.drop at_) = 0
        · simp [h0]
        · simp [h0]
          cases sName (s.drop at_) at_ with
          | bad f => rfl
          | ok x => rfl)
    go_upto_if 39 with fail
    go_cut [3, 4] (fun l q wx => ∃ ts qb at', q = .bool qb ∧ TLoop w wx b s base r l ts qb at')
    case first =>
      cases n0 with
      | false =>
        have hE := HE.out
        rw [if_neg (by simp)] at hE
        have HE' := Lib.hid hE
        clear hE
        go_wp2_with fail
        go_meet
        case rel => exact ⟨[], q0, at1, rfl, H2.out, HOW.out, by simp, HK2.out, _, by omega, HE'.out⟩
      | true =>
        have hE := HE.out
        rw [if_pos rfl] at hE
        have HE' := Lib.hid hE
        clear hE
        go_wp2_with fail
        refine (sname_sum _ _ _ _ H2.out).mono ?_
        rintro e w3 (⟨f, rfl, hk3, hp3⟩ | ⟨nm, at3, rfl, hk3, h3, hp3⟩)
        · have hR : Hid (r = .bad f) := Lib.hid (by rw [← HE'.out, hp3.out]; rfl)
          have K3 := Lib.hid (HK2.out.trans hk3)
          clear hk3
          go_wp2_with fail
          exact ⟨rfl, .bad K3.out hR.out⟩
        · have hR : Hid (sTestsL ((s.drop at3).length + 1) [⟨1, nm, []⟩] true (s.drop at3) at3 = r) := Lib.hid (by rw [← HE'.out, hp3.out]; rfl)
          have K3 := Lib.hid (HK2.out.trans hk3)
          have H3 := Lib.hid h3
          have how3 := owns_kept HOW.out hk3 (fun k hk => by have := (HOW.out.lt k hk).1; omega)
          have hsz : base ≤ w3.heap.size := by have := K3.out.size; have := HBASE.out; omega
          clear hk3 h3
          go_wp2_with (at_builtin; refine wpList_append_lies _ rfl _ _ _ rfl base 195 i0 _ 3 40 Tryz.underlying191 hi0 hz0 hz1 hz2 rfl (by omega) _ 0 [] (by rfl) (how3.alloc _) ⟨w3.heap.size, 0, none⟩ 1 1 (testCells ⟨1, nm, []⟩) (by rfl) (by rfl) (World.news_of_block (cs := (testCells ⟨1, nm, []⟩).toArray) (t := 195) (fr := (0, 0)) (heap_alloc_new w3 _)) (test_one _) (by omega) (by unfold maxLen; omega) (by omega) (by simp; omega) (w3.heap.size + 1) (by simp) ?_; intro gg cap w4 hown4 hgrow4 hat4 hlt4)
          go_meet
          case rel => exact ⟨[⟨1, nm, []⟩], true, at3, rfl, own_rd H3.out hbb how3 hgrow4, hown4, by simp, own_grow K3.out HBASE.out how3 hgrow4, _, by omega, hR.out⟩
    case rest =>
      obtain ⟨ts0, qb0, at0, rfl, hL0⟩ := hcut
      have HL0 := Lib.hid hL0
      clear hL0
      go_upto_block 0 with fail
      go_cut [3, 4] (fun l q wx => ∃ ts qb at', q = .bool qb ∧ TLoop w wx b s base r l ts qb at' ∧ Hid (sTest (s.drop at') at' = .ok (none, s.drop at', at')))
      case first =>
        go_wp2_with fail
        go_loopg [3, 4] (s.length - at0) (fun k l q wr => ∃ ts qb at', q = .bool qb ∧ TLoop w wr b s base r l ts qb at' ∧ k = s.length - at')
        case atStart => exact ⟨ts0, qb0, at0, rfl, HL0.out, rfl⟩
        case round =>
          obtain ⟨ts, qb, at', rfl, hL, hk⟩ := hrel
          have HL := Lib.hid hL
          have hfew := hL.few
          have hl' := hL.rd.2.1
          clear hL
          go_wp2_with fail
          refine (stest_sum _ _ _ _ HL.out.rd).mono ?_
          rintro e w5 (⟨f, rfl, hk5, hp5⟩ | ⟨t, at5, rfl, hk5, h5, hp5⟩)
          · have hR : Hid (r = .bad f) := Lib.hid (by
              obtain ⟨g, hg, hr⟩ := HL.out.rest
              cases g with
              | zero => omega
              | succ g => rw [← sTestsL_step hr, hp5.out]; rfl)
            have K5 := Lib.hid (HL.out.kept.trans hk5)
            clear hk5
            go_wp2_with fail
            exact ⟨rfl, .bad K5.out hR.out⟩
          · have H5 := Lib.hid h5
            have K5 := Lib.hid (HL.out.kept.trans hk5)
            have how5 := owns_kept HL.out.own hk5 (fun k hk => by have := (HL.out.own.lt k hk).1; omega)
            have hsz : base ≤ w5.heap.size := by have := K5.out.size; have := HBASE.out; omega
            have HOW5 := Lib.hid how5
            clear hk5 h5 how5
            cases t with
            | none =>
              obtain ⟨ht1, ht2⟩ : s.drop at' = s.drop at5 ∧ at5 = at' := by
                obtain ⟨t, h1, h2, _, h3, _⟩ := test_loc hp5.out
                have := h3 rfl
                subst this
                exact ⟨h1, h2⟩
              subst ht2
              rw [show testV none = .tuple #[.agg #[.int .i64 0, .string (str []), .string (str [])], .bool false] from rfl]
              go_wp2_with fail
              go_meet
              case rel => exact ⟨ts, qb, at5, rfl, ⟨H5.out.alloc _, HOW5.out.alloc _, HL.out.few, K5.out.alloc _, HL.out.rest⟩, hp5⟩
            | some t =>
              have hlt : at' < at5 := by
                obtain ⟨t, h1, h2, h3, _⟩ := test_loc hp5.out
                have := h3 (by simp)
                omega
              have hl5 := H5.out.2.1
              rw [show testV (some t) = .tuple #[.agg #[.int .i64 t.kind, .string (str t.name), .string (str t.val)], .bool true] from rfl]
              by_cases h6 : ts.length = 6
              · have e6 : ((ts.length : Int) == 6) = true := by simp; omega
                have hR : Hid (r = .bad ⟨5, at5⟩) := Lib.hid (by
                  obtain ⟨g, hg, hr⟩ := HL.out.rest
                  cases g with
                  | zero => omega
                  | succ g => rw [← sTestsL_step hr, hp5.out, Ans.ok_then]; simp only; rw [if_pos h6])
                clear h6
                obtain ⟨vo, vc, hv⟩ : ∃ vo vc, u3 = .slice vo ts.length vc := by
                  rcases HOW5.out.2 with ⟨h, hn⟩ | ⟨g, cap, cur, h, _⟩
                  · exact ⟨none, 0, by rw [h, hn]⟩
                  · exact ⟨_, cap, h⟩
                subst hv
                go_wp2_with fail
                refine (sfail_any 5 _ _ _ _ (H5.out.alloc _)).mono ?_
                rintro e w9 ⟨rfl, hq9⟩
                go_wp2_with fail
                exact ⟨rfl, .bad ((K5.out.alloc _).trans (hq9.kept _)) hR.out⟩
              · have e6 : ((ts.length : Int) == 6) = false := by simp; omega
                have hR : Hid (∃ g, (s.drop at5).length < g ∧ sTestsL g (ts ++ [t]) true (s.drop at5) at5 = r) := Lib.hid (by
                  obtain ⟨g, hg, hr⟩ := HL.out.rest
                  cases g with
                  | zero => omega
                  | succ g =>
                    have := sTestsL_step hr
                    rw [hp5.out, Ans.ok_then] at this
                    simp only at this
                    rw [if_neg h6] at this
                    exact ⟨g, by rw [List.length_drop] at hg ⊢; omega, this⟩)
                obtain ⟨vo, vc, hv⟩ : ∃ vo vc, u3 = .slice vo ts.length vc := by
                  rcases HOW5.out.2 with ⟨h, hn⟩ | ⟨g, cap, cur, h, _⟩
                  · exact ⟨none, 0, by rw [h, hn]⟩
                  · exact ⟨_, cap, h⟩
                subst hv
                obtain ⟨tk, tn, tv⟩ := t
                obtain ⟨wb, HWB⟩ : ∃ wb, Hid (w5.alloc (.cells #[.int .i64 tk, .string (str tn), .string (str tv)] 195 (0, 0)) = wb) := ⟨_, rfl⟩
                have H6 : Hid (SdAt wb b s at5) := Lib.hid (by rw [← HWB.out]; exact H5.out.alloc _)
                have K6 : Hid (Kept (· = b) w wb) := Lib.hid (by rw [← HWB.out]; exact K5.out.alloc _)
                have how6 : wb.ownsRow base 195 3 (.slice vo ts.length vc) ts.length (ts.map testCells).flatten := by rw [← HWB.out]; exact HOW5.out.alloc _
                have hsz6 : base ≤ wb.heap.size := by rw [← HWB.out]; simp; omega
                have hn6 : wb.heap[w5.heap.size]? = some (.cells #[.int .i64 tk, .string (str tn), .string (str tv)] 195 (0, 0)) := by rw [← HWB.out]; exact newIn _ _
                have n0 := cellIn hn6 0 rfl
                have n1 := cellIn hn6 1 rfl
                have n2 := cellIn hn6 2 rfl
                have hfew6 : ts.length + 1 ≤ 6 := by omega
                clear hn6 h6
                go_upto_region 7 with fail
                rw [HWB.out]
                go_wp2_with (at_builtin; refine wpList_append_lies _ rfl _ _ _ rfl base 195 i0 _ 3 40 Tryz.underlying191 hi0 hz0 hz1 hz2 rfl (by omega) _ ts.length _ (by rfl) (how6.alloc _) ⟨wb.heap.size, 0, none⟩ 1 1 (testCells ⟨tk, tn, tv⟩) (by rfl) (by rfl) (World.news_of_block (cs := (testCells ⟨tk, tn, tv⟩).toArray) (t := 195) (fr := (0, 0)) (heap_alloc_new wb _)) (test_one _) (by omega) (by unfold maxLen; omega) (by omega) (by simp; omega) (wb.heap.size + 1) (by simp) ?_; intro gg cap w4 hown4 hgrow4 hat4 hlt4)
                go_roundg (s.length - at5)
                case measure => omega
                case rel => exact ⟨ts ++ [⟨tk, tn, tv⟩], true, at5, rfl, ⟨own_rd H6.out hbb how6 hgrow4, by simpa [testCells] using hown4, by simpa using hfew6, own_grow K6.out HBASE.out how6 hgrow4, hR.out⟩, rfl⟩
      case rest =>
        obtain ⟨ts, qb, at', rfl, hL, HT⟩ := hcut
        have hown := hL.own
        have HL := Lib.hid hL
        have HR' : Hid ((if qb then Ans.ok (ts, s.drop at', at') else .bad ⟨2, at'⟩) = r) := Lib.hid (by
          obtain ⟨f, hf, hr⟩ := HL.out.rest
          cases f with
          | zero => omega
          | succ f =>
            have := sTestsL_step hr
            rw [HT.out] at this
            exact this)
        clear hL
        cases qb with
        | true =>
          have hR : Hid (r = .ok (ts, s.drop at', at')) := Lib.hid (by rw [← HR'.out]; rfl)
          go_wp2_with fail
          go_ret
          refine .inr ⟨ts, at', ⟨_, rfl, rowsAt_of_owns test_rows (by simp) hown, fun k hk => ⟨?_, (hown.lt k hk).2⟩⟩, HL.out.kept, HL.out.rd, hR⟩
          have := (hown.lt k hk).1
          have := HBASE.out
          omega
        | false =>
          have hR : Hid (r = .bad ⟨2, at'⟩) := Lib.hid (by rw [← HR'.out]; rfl)
          go_wp2_with fail
          refine (sfail_any 2 _ _ _ _ HL.out.rd).mono ?_
          rintro e w9 ⟨rfl, hq9⟩
          go_wp2_with fail
          exact ⟨rfl, .bad (HL.out.kept.trans (hq9.kept _)) hR.out⟩
end Go.Proofs.YtplbdlgmjehckadGreatDoor

namespace Go.Proofs.YtplbdlgmjehckadGreatDoor
open Go.RowKit
set_option linter.unusedVariables false
set_option linter.unusedSimpArgs false
end Go.Proofs.YtplbdlgmjehckadGreatDoor

namespace Go.Proofs.YtplbdlgmjehckadGreatDoor
open Go.RowKit
set_option linter.unusedVariables false
set_option linter.unusedSimpArgs false
abbrev PartOwn := NestOwn partCells 2 193 (fun w X u (p : PPart) => TestsIn w X u p.tests)
theorem sSelL_step {f : Nat} {ps : List PPart} {l : B} {a : Nat} {r : Ans (PSel × B × Nat)} (h : sSelL (f + 1) ps l a = r) :
    ((sJoin l a).then fun x => match x.1 with
    | none => .ok (ps, x.2.1, x.2.2)
    | some j => if ps.length = 6 then .bad ⟨5, x.2.2⟩ else (sTests x.2.1 x.2.2).then fun y => sSelL f (ps ++ [⟨j, y.1⟩]) y.2.1 y.2.2) = r := by
  rw [← h, sSelL]
  cases sJoin l a with
  | bad f => rfl
  | ok x =>
    obtain ⟨t, l1, a1⟩ := x
    cases t <;> rfl
theorem selEnds_cons {l t : B} {c : UInt8} (h : l = c :: t) : selEnds true l = ((c == 44) || (c == 123)) := by
  rw [h]; unfold selEnds; rw [one_prefix, one_prefix]; simp
structure PLoop (w wr : World) (b : Nat) (s : B) (base : Nat) (r : Ans (PSel × B × Nat)) (l : Value) (ps : List PPart) (vs : List Value) (at' : Nat) : Prop where
  rd : SdAt wr b s at'
  own : PartOwn wr base l ps vs
  few : ps.length ≤ 6
  kept : Kept (· = b) w wr
  rest : ∃ f, (s.drop at').length < f ∧ sSelL f ps (s.drop at') at' = r
theorem first_part {w : World} {b base : Nat} {v : Value} {ts : List PTest} (hb : base ≤ w.heap.size) (h : TestsIn w (fun k => k < base) v ts) :
    PartOwn (w.alloc (.cells #[.int .i64 0, v] 193 (0, 0))) base (.slice (some ⟨w.heap.size, 0, none⟩) 1 1) [⟨0, ts⟩] [v] := by
  refine ⟨rfl, ⟨rfl, .inr ⟨w.heap.size, 1, _, rfl, hb, newIn _ _, Nat.le_refl _, by unfold maxLen; omega, rfl, rfl⟩⟩, ?_⟩
  intro i p u hp hu
  have hi : i = 0 := by have := (List.getElem?_eq_some_iff.1 hp).1; simp at this; exact this
  subst hi
  simp at hp hu
  subst hp; subst hu
  refine h.kept (S := fun _ => False) ((Kept.refl _ _).alloc _) (fun k _ hs => hs.elim) (fun k hk hx => ?_)
  rcases hx with hx | hx
  · exact hx
  · simp only [Value.ownBlock, Option.some.injEq] at hx; omega
set_option maxRecDepth 100000 in
set_option maxHeartbeats 3200000 in
theorem ssel_sum (w : World) (b : Nat) (s : B) (at_ : Nat) (m : Int) (h : SdAt w b s at_) (hm : w.cell? ⟨0, 0, none⟩ = some (.int .i64 m)) (hb0 : 0 < b) :
    Calls Tryz.prog 99 #[.pointer (some ⟨b, 0, none⟩)] w (SSum (sSel (s.drop at_) at_) w b s (fun w' ps e => ∃ v, e = .returned v ∧ PartsIn w' (fun k => k < w.heap.size) v ps)) := by
  obtain ⟨r, HR⟩ : ∃ r, Hid (sSel (s.drop at_) at_ = r) := ⟨_, rfl⟩
  rw [HR.out]
  have HM := Lib.hid hm
  obtain ⟨i0, hi0, hz0, hz1, hz2⟩ := info_parts info_part
  obtain ⟨base, HBASE⟩ : ∃ base, Hid (w.heap.size = base) := ⟨_, rfl⟩
  have hbb : b < base := by have := h.lt; have := HBASE.out; omega
  have H := Lib.hid h
  have hl := h.2.1
  have hmx := h.2.2
  clear h hm
  rw [HBASE.out]
  go_enter Tryz.func99, Tryz.ntmps99
  go_wp2_with fail
  refine (stests_sum _ _ _ _ H.out).mono ?_
  rintro e w1 (⟨f, rfl, hk1, hp1⟩ | ⟨ts, at1, ⟨v, rfl, hv⟩, hk1, h1, hp1⟩)
  · have hR : Hid (r = .bad f) := Lib.hid (by rw [← HR.out]; unfold sSel; rw [hp1.out]; rfl)
    have K1 := Lib.hid hk1
    clear hk1
    go_wp2_with fail
    exact ⟨rfl, .bad K1.out hR.out⟩
  · have hsz : base ≤ w1.heap.size := by have := hk1.size; have := HBASE.out; omega
    rw [HBASE.out] at hv
    obtain ⟨va, vc, rfl⟩ : ∃ a c, v = .slice a ts.length c := by
      obtain ⟨a, cap, h, _⟩ := hv.1; exact ⟨a, cap, by simpa using h⟩
    have hP0 : PLoop w (w1.alloc (.cells #[.int .i64 0, .slice va ts.length vc] 193 (0, 0))) b s base r (.slice (some ⟨w1.heap.size, 0, none⟩) 1 1) [⟨0, ts⟩] [.slice va ts.length vc] at1 :=
      ⟨h1.alloc _, first_part (b := b) hsz hv, by simp, hk1.alloc _, _, Nat.lt_succ_self _, by rw [← HR.out]; unfold sSel; rw [hp1.out]; rfl⟩
    have HP0 := Lib.hid hP0
    have hl1 := h1.2.1
    clear hv hk1 h1 hP0
    go_upto_block 0 with fail
    generalize (w1.alloc (.cells #[.int .i64 0, .slice va ts.length vc] 193 (0, 0))) = wa at *
    clear HR hp1
    go_wp2_with fail
    go_loopg [3] (s.length - at1 + 1) (fun k l wr => ∃ ps vs at', PLoop w wr b s base r l ps vs at' ∧ k = s.length - at' + 1)
    case atStart => exact ⟨_, _, at1, HP0.out, rfl⟩
    case round =>
      obtain ⟨ps, vs, at', hL, hk⟩ := hrel
      have HL := Lib.hid hL
      have hfew := hL.few
      have hl' := hL.rd.2.1
      obtain ⟨lo, lc, rfl⟩ := hL.own.form
      have hmr : wr.cell? ⟨0, 0, none⟩ = some (.int .i64 m) := hL.kept.cell (by show ¬ (0 = b); omega) HM.out
      have HMR := Lib.hid hmr
      have HREST : Hid (∃ f, (s.drop at').length < f + 1 ∧ ((sJoin (s.drop at') at').then fun x => match x.1 with
        | none => .ok (ps, x.2.1, x.2.2)
        | some j => if ps.length = 6 then .bad ⟨5, x.2.2⟩ else (sTests x.2.1 x.2.2).then fun y => sSelL f (ps ++ [⟨j, y.1⟩]) y.2.1 y.2.2) = r) := Lib.hid (by
          obtain ⟨f, hf, hr⟩ := hL.rest
          cases f with
          | zero => omega
          | succ f => exact ⟨f, hf, sSelL_step hr⟩)
      obtain ⟨f, hf, hrr⟩ := HREST.out
      have HRR := Lib.hid hrr
      clear hL hmr hrr HREST
      go_wp2_with fail
      refine (sblank_sum _ _ _ _ m HL.out.rd HMR.out hb0).mono ?_
      rintro e w2 (⟨g, rfl, hk2, hp2⟩ | ⟨at2, rfl, hk2, h2, hp2⟩)
      · have hR : Hid (r = .bad g) := Lib.hid (by rw [← HRR.out]; unfold sJoin; rw [hp2.out]; rfl)
        have K2 := Lib.hid (HL.out.kept.trans hk2)
        clear hk2
        go_wp2_with fail
        exact ⟨rfl, .bad K2.out hR.out⟩
      · have O2 := Lib.hid (HL.out.own.kept part_lasts hbb hk2)
        have K2 := Lib.hid (HL.out.kept.trans hk2)
        have H2 := Lib.hid h2
        have hl2 := h2.2.1
        have HKW := Lib.hid hk2
        clear hk2 h2
        obtain ⟨gb, HGB⟩ : ∃ g, Hid (decide (at' < at2) = g) := ⟨_, rfl⟩
        rw [HGB.out]
        go_upto_block 2 with fail
        obtain ⟨nb, HNB⟩ : ∃ nb, Hid (w2.heap.size = nb) := ⟨_, rfl⟩
        obtain ⟨wb, HWB⟩ : ∃ wb, Hid (w2.alloc (.cells #[.int .i64 1, .slice none 0 0] 193 (0, 0)) = wb) := ⟨_, rfl⟩
        have H3 : Hid (SdAt wb b s at2) := Lib.hid (by rw [← HWB.out]; exact H2.out.alloc _)
        have K3 : Hid (Kept (· = b) w2 wb) := Lib.hid (by rw [← HWB.out]; exact (Kept.refl _ _).alloc _)
        have N3 : Hid (wb.heap[nb]? = some (.cells #[.int .i64 1, .slice none 0 0] 193 (0, 0))) := Lib.hid (by rw [← HWB.out, ← HNB.out]; exact newIn _ _)
        have hnb : ¬ nb = b := by have := H2.out.lt; have := HNB.out; omega
        have hnb2 : w2.heap.size ≤ nb := by have := HNB.out; omega
        have HK2 : Hid (Kept (· = b) wr w2) := Lib.hid HKW.out
        have HM2 : Hid (w2.cell? ⟨0, 0, none⟩ = some (.int .i64 m)) := Lib.hid (K2.out.cell (by show ¬ (0 = b); omega) HM.out)
        rw [HWB.out, HNB.out]
        go_cut [] (fun wx => ∃ (j : Int) (at3 : Nat), SdAt wx b s at3 ∧ Kept (· = b) w2 wx ∧ wx.heap[nb]? = some (.cells #[.int .i64 j, .slice none 0 0] 193 (0, 0)) ∧ Hid (sJoin (s.drop at') at' = .ok (some j, s.drop at3, at3)))
        case first =>
          go_wp2_with fail
          cases p1 : ([62] : B).isPrefixOf (s.drop at2) with
          | true =>
            refine (seat_is true [62] _ _ _ _ H3.out p1).mono ?_
            rintro e w4 ⟨rfl, hk4, h4⟩
            have h4' : SdAt w4 b s (at2 + 1) := h4
            have HJ : Hid (((sGap (s.drop (at2 + 1)) (at2 + 1)).then fun x => Ans.ok (some (2 : Int), x.1, x.2)) = sJoin (s.drop at') at') := Lib.hid (by
              unfold sJoin; rw [hp2.out, Ans.ok_then]; simp only; rw [if_pos p1, List.drop_drop])
            have hn4 := hk4.heap hnb N3.out
            have n0 := cellIn hn4 0 rfl
            have nf0 := freeIn hn4 0
            have K4 := Lib.hid (K3.out.trans hk4)
            have H4 := Lib.hid h4'
            have N4 := Lib.hid hn4
            clear hk4 h4 h4' hn4 p1
            go_wp2_with fail
            have hb5 : b ≠ nb := fun hh => hnb hh.symm
            have h5 := H4.out.other (p := ⟨nb, 0, none⟩) (x := .int .i64 2) hb5
            have hn5 : (w4.setCell ⟨nb, 0, none⟩ (.int .i64 2)).heap[nb]? = some (.cells #[.int .i64 2, .slice none 0 0] 193 (0, 0)) := by
              have := setIn N4.out 0 (.int .i64 2)
              simpa using this
            have K5 := Lib.hid (K4.out.setCell (p := ⟨nb, 0, none⟩) (.inr hnb2) (.int .i64 2))
            have H5 := Lib.hid h5
            have N5 := Lib.hid hn5
            have hmr5 := Lib.hid (K5.out.cell (by show ¬ (0 = b); omega) HM2.out)
            clear h5 hn5 n0 nf0
            generalize (w4.setCell ⟨nb, 0, none⟩ (.int .i64 2)) = w5 at *
            refine (sblank_sum _ _ _ _ m H5.out hmr5.out hb0).mono ?_
            rintro e w6 (⟨g, rfl, hk6, hp6⟩ | ⟨at6, rfl, hk6, h6, hp6⟩)
            · have hR : Hid (r = .bad g) := Lib.hid (by rw [← HRR.out, ← HJ.out, hp6.out]; rfl)
              have K6 := Lib.hid ((HL.out.kept.trans HK2.out).trans (K5.out.trans hk6))
              clear hk6
              go_wp2_with fail
              exact ⟨rfl, .bad K6.out hR.out⟩
            · have K6 := Lib.hid (K5.out.trans hk6)
              have H6 := Lib.hid h6
              have N6 := Lib.hid (hk6.heap hnb N5.out)
              have HJ6 : Hid (sJoin (s.drop at') at' = .ok (some 2, s.drop at6, at6)) := Lib.hid (by rw [← HJ.out, hp6.out]; rfl)
              clear hk6 h6
              go_wp2_with fail
              go_meet
              case rel => exact ⟨2, at6, H6.out, K6.out, N6.out, HJ6⟩
          | false =>
            have P1 := Lib.hid p1
            refine (seat_no [62] _ _ _ _ H3.out p1).mono ?_
            rintro e w4 ⟨rfl, hq4⟩
            have hqk : Kept (· = b) wb w4 := (show Qt wb w4 from hq4).kept _
            have H3' := Lib.hid (H3.out.quiet hq4)
            have K3' := Lib.hid (K3.out.trans hqk)
            have N3' := Lib.hid (hqk.heap hnb N3.out)
            clear p1 hq4 hqk HWB H3 K3 N3
            have H3 := H3'
            have K3 := K3'
            have N3 := N3'
            clear H3' K3' N3'
            obtain ⟨w4_, hw4⟩ : ∃ x, x = w4 := ⟨_, rfl⟩
            subst hw4
            go_wp2_with fail
            cases p1 : ([43] : B).isPrefixOf (s.drop at2) with
            | true =>
              refine (seat_is true [43] _ _ _ _ H3.out p1).mono ?_
              rintro e w4 ⟨rfl, hk4, h4⟩
              have h4' : SdAt w4 b s (at2 + 1) := h4
              have HJ : Hid (((sGap (s.drop (at2 + 1)) (at2 + 1)).then fun x => Ans.ok (some (3 : Int), x.1, x.2)) = sJoin (s.drop at') at') := Lib.hid (by
                unfold sJoin; rw [hp2.out, Ans.ok_then]; simp only; rw [P1.out, if_neg (by simp)]; rw [if_pos p1, List.drop_drop])
              have hn4 := hk4.heap hnb N3.out
              have n0 := cellIn hn4 0 rfl
              have nf0 := freeIn hn4 0
              have K4 := Lib.hid (K3.out.trans hk4)
              have H4 := Lib.hid h4'
              have N4 := Lib.hid hn4
              clear hk4 h4 h4' hn4 p1
              go_wp2_with fail
              have hb5 : b ≠ nb := fun hh => hnb hh.symm
              have h5 := H4.out.other (p := ⟨nb, 0, none⟩) (x := .int .i64 3) hb5
              have hn5 : (w4.setCell ⟨nb, 0, none⟩ (.int .i64 3)).heap[nb]? = some (.cells #[.int .i64 3, .slice none 0 0] 193 (0, 0)) := by
                have := setIn N4.out 0 (.int .i64 3)
                simpa using this
              have K5 := Lib.hid (K4.out.setCell (p := ⟨nb, 0, none⟩) (.inr hnb2) (.int .i64 3))
              have H5 := Lib.hid h5
              have N5 := Lib.hid hn5
              have hmr5 := Lib.hid (K5.out.cell (by show ¬ (0 = b); omega) HM2.out)
              clear h5 hn5 n0 nf0
              generalize (w4.setCell ⟨nb, 0, none⟩ (.int .i64 3)) = w5 at *
              refine (sblank_sum _ _ _ _ m H5.out hmr5.out hb0).mono ?_
              rintro e w6 (⟨g, rfl, hk6, hp6⟩ | ⟨at6, rfl, hk6, h6, hp6⟩)
              · have hR : Hid (r = .bad g) := Lib.hid (by rw [← HRR.out, ← HJ.out, hp6.out]; rfl)
                have K6 := Lib.hid ((HL.out.kept.trans HK2.out).trans (K5.out.trans hk6))
                clear hk6
                go_wp2_with fail
                exact ⟨rfl, .bad K6.out hR.out⟩
              · have K6 := Lib.hid (K5.out.trans hk6)
                have H6 := Lib.hid h6
                have N6 := Lib.hid (hk6.heap hnb N5.out)
                have HJ6 : Hid (sJoin (s.drop at') at' = .ok (some 3, s.drop at6, at6)) := Lib.hid (by rw [← HJ.out, hp6.out]; rfl)
                clear hk6 h6
                go_wp2_with fail
                go_meet
                case rel => exact ⟨3, at6, H6.out, K6.out, N6.out, HJ6⟩
            | false =>
              have P2 := Lib.hid p1
              refine (seat_no [43] _ _ _ _ H3.out p1).mono ?_
              rintro e w4 ⟨rfl, hq4⟩
              have hqk : Kept (· = b) w4_ w4 := (show Qt w4_ w4 from hq4).kept _
              have H4 := Lib.hid (H3.out.quiet hq4)
              have K4 := Lib.hid (K3.out.trans hqk)
              have N4 := Lib.hid (hqk.heap hnb N3.out)
              clear p1 hq4 hqk
              have c0 := H4.out.c0
              have c1 := H4.out.c1
              have HJ : Hid (sJoin (s.drop at') at' = if selEnds gb (s.drop at2) then .ok (none, s.drop at2, at2) else .ok (some 1, s.drop at2, at2)) := Lib.hid (by
                unfold sJoin; rw [hp2.out, Ans.ok_then]; simp only; rw [P1.out, if_neg (by simp), P2.out, if_neg (by simp), HGB.out])
              obtain ⟨se, HSE⟩ : ∃ x, Hid (selEnds gb (s.drop at2) = x) := ⟨_, rfl⟩
              rw [HSE.out] at HJ
              go_upto_region 10 with fail
              go_cut [25] (fun x wx => x = .bool se ∧ Qt w4 wx)
              case first =>
                cases gb with
                | false =>
                  obtain rfl : se = true := by rw [← HSE.out]; rfl
                  go_wp2_with fail
                  go_quiet (fail)
                  go_wp2_with fail
                  go_meet
                  case rel => exact ⟨rfl, _, rfl⟩
                | true =>
                  by_cases hlt : at2 < s.length
                  · have e0 : ((at2 : Int) == (s.length : Int)) = false := by simp; omega
                    have hd := List.drop_eq_getElem_cons hlt
                    have HSEV : Hid (se = (((s[at2]'hlt) == 44) || ((s[at2]'hlt) == 123))) := Lib.hid (by
                      rw [← HSE.out]; exact selEnds_cons hd)
                    clear hd
                    cases e1 : (((s[at2]'hlt).toNat : Int) == 44) with
                    | true =>
                      obtain rfl : se = true := by
                        rw [HSEV.out]
                        have : s[at2]'hlt = 44 := UInt8.toNat_inj.1 (by simp at e1; have : (44 : UInt8).toNat = 44 := rfl; omega)
                        rw [this]; rfl
                      go_wp2_with fail
                      go_quiet (fail)
                      go_wp2_with fail
                      go_meet
                      case rel => exact ⟨rfl, _, rfl⟩
                    | false =>
                      have hne : ¬ s[at2]'hlt = 44 := fun h => by rw [h] at e1; cases e1
                      cases e2 : (((s[at2]'hlt).toNat : Int) == 123) with
                      | true =>
                        obtain rfl : se = true := by
                          rw [HSEV.out]
                          have : s[at2]'hlt = 123 := UInt8.toNat_inj.1 (by simp at e2; have : (123 : UInt8).toNat = 123 := rfl; omega)
                          rw [this]; rfl
                        clear hne
                        go_wp2_with fail
                        go_quiet (fail)
                        go_wp2_with fail
                        go_meet
                        case rel => exact ⟨rfl, _, rfl⟩
                      | false =>
                        have hne2 : ¬ s[at2]'hlt = 123 := fun h => by rw [h] at e2; cases e2
                        obtain rfl : se = false := by rw [HSEV.out]; simp [hne, hne2]
                        clear hne hne2
                        go_wp2_with fail
                        go_quiet (fail)
                        go_wp2_with fail
                        go_meet
                        case rel => exact ⟨rfl, _, rfl⟩
                  · have e0 : ((at2 : Int) == (s.length : Int)) = true := by simp; omega
                    obtain rfl : se = true := by rw [← HSE.out, List.drop_eq_nil_of_le (by omega)]; rfl
                    go_wp2_with fail
                    go_quiet (fail)
                    go_wp2_with fail
                    go_meet
                    case rel => exact ⟨rfl, _, rfl⟩
              case rest =>
                obtain ⟨rfl, hq5⟩ := hcut
                have K5 := Lib.hid (K4.out.trans (hq5.kept _))
                have H5 := Lib.hid (H4.out.quiet hq5)
                have N5 := Lib.hid ((hq5.kept (· = b)).heap hnb N4.out)
                clear hq5 c0 c1
                cases se with
                | true =>
                  have hR : Hid (r = .ok (ps, s.drop at2, at2)) := Lib.hid (by rw [← HRR.out, HJ.out]; rfl)
                  have hP := ((HL.out.own.kept part_lasts hbb (HK2.out.trans K5.out)).done partCells_len part_lasts)
                  have HPP := Lib.hid hP
                  clear hP
                  go_wp2_with fail
                  go_ret
                  exact .inr ⟨ps, at2, ⟨_, rfl, HPP.out⟩, (HL.out.kept.trans HK2.out).trans K5.out, H5.out, hR⟩
                | false =>
                  have HJ1 : Hid (sJoin (s.drop at') at' = .ok (some 1, s.drop at2, at2)) := Lib.hid (by rw [HJ.out]; rfl)
                  go_wp2_with fail
                  go_meet
                  case rel => exact ⟨1, at2, H5.out, K5.out, N5.out, HJ1⟩
        case rest =>
          obtain ⟨j, at3, hs3, hk3, hn3, HJ⟩ := hcut
          have H3' := Lib.hid hs3
          have K3' := Lib.hid hk3
          have N3' := Lib.hid hn3
          have hl3 := hs3.2.1
          have hlt3 : at' ≤ at3 := by
            obtain ⟨t, h1, h2, _⟩ := join_loc _ _ _ _ _ HJ.out
            omega
          clear hs3 hk3 hn3
          by_cases h6 : ps.length = 6
          · have e6 : ((ps.length : Int) == 6) = true := by simp; omega
            have hR : Hid (r = .bad ⟨5, at3⟩) := Lib.hid (by rw [← HRR.out, HJ.out, Ans.ok_then]; simp only; rw [if_pos h6])
            clear h6
            go_wp2_with fail
            refine (sfail_any 5 _ _ _ _ H3'.out).mono ?_
            rintro e w9 ⟨rfl, hq9⟩
            go_wp2_with fail
            exact ⟨rfl, .bad (((HL.out.kept.trans HK2.out).trans K3'.out).trans (hq9.kept _)) hR.out⟩
          · have e6 : ((ps.length : Int) == 6) = false := by simp; omega
            have HRT : Hid (((sTests (s.drop at3) at3).then fun y => sSelL f (ps ++ [⟨j, y.1⟩]) y.2.1 y.2.2) = r) := Lib.hid (by rw [← HRR.out, HJ.out, Ans.ok_then]; simp only; rw [if_neg h6])
            have hfew6 : ps.length + 1 ≤ 6 := by omega
            clear h6
            go_wp2_with fail
            refine (stests_sum _ _ _ _ H3'.out).mono ?_
            rintro e w5 (⟨g, rfl, hk5, hp5⟩ | ⟨ts5, at5, ⟨v5, rfl, hv5⟩, hk5, h5, hp5⟩)
            · have hR : Hid (r = .bad g) := Lib.hid (by rw [← HRT.out, hp5.out]; rfl)
              have K5 := Lib.hid (((HL.out.kept.trans HK2.out).trans K3'.out).trans hk5)
              clear hk5
              go_wp2_with fail
              exact ⟨rfl, .bad K5.out hR.out⟩
            · obtain ⟨va5, vc5, rfl⟩ : ∃ a c, v5 = .slice a ts5.length c := by
                obtain ⟨a, cap, h, _⟩ := hv5.1; exact ⟨a, cap, by simpa using h⟩
              have hR : Hid (∃ g, (s.drop at5).length < g ∧ sSelL g (ps ++ [⟨j, ts5⟩]) (s.drop at5) at5 = r) := Lib.hid (by
                have := HRT.out
                rw [hp5.out, Ans.ok_then] at this
                have hlt5 := tests_loc.2 _ _ _ _ _ hp5.out
                have := h5.2.1
                exact ⟨f, by rw [List.length_drop] at hf ⊢; omega, by assumption⟩)
              have hlt5 := tests_loc.2 _ _ _ _ _ hp5.out
              have hl5 := h5.2.1
              have hn5 := hk5.heap hnb N3'.out
              have n0 := cellIn hn5 0 rfl
              have n1 := cellIn hn5 1 rfl
              have nf1 := freeIn hn5 1
              have N5 := Lib.hid hn5
              have H5 := Lib.hid h5
              have K5 := Lib.hid (K3'.out.trans hk5)
              have V5 := Lib.hid hv5
              have hnlt : nb < wc.heap.size := ltIn N3'.out
              clear hk5 h5 hn5 hv5
              have hnbb : b ≠ nb := fun hh => hnb hh.symm
              have h6 := H5.out.other (p := ⟨nb, 1, none⟩) (x := .slice va5 ts5.length vc5) hnbb
              have k6 := K5.out.setCell (p := ⟨nb, 1, none⟩) (.inr hnb2) (.slice va5 ts5.length vc5)
              have v6 : TestsIn (w5.setCell ⟨nb, 1, none⟩ (.slice va5 ts5.length vc5)) (fun k => k < wc.heap.size) (.slice va5 ts5.length vc5) ts5 :=
                V5.out.kept (S := (· = nb)) ((Kept.refl (· = nb) _).setCell (p := ⟨nb, 1, none⟩) (.inl rfl) _) (fun k _ hs => by have : k = nb := hs; omega) (fun k _ hx => hx)
              have o6 := HL.out.own.kept part_lasts hbb (HK2.out.trans k6)
              have hsz6 : base ≤ (w5.setCell ⟨nb, 1, none⟩ (.slice va5 ts5.length vc5)).heap.size := by have := k6.size; have := HK2.out.size; have := HL.out.kept.size; have := HBASE.out; omega
              have howlt : ∀ k, (Value.slice lo ps.length lc).ownBlock = some k → k < wc.heap.size := fun k hk => by
                have := (HL.out.own.own.lt k hk).2; have := HK2.out.size; have := K3'.out.size; omega
              have hbwc : base ≤ wc.heap.size := by have := K3'.out.size; have := HK2.out.size; have := HL.out.kept.size; have := HBASE.out; omega
              have H6 := Lib.hid h6
              have K6 := Lib.hid k6
              have V6 := Lib.hid v6
              have O6 := Lib.hid o6
              have how6 := o6.own
              clear h6 k6 v6 o6
              go_upto_region 15 with fail
              generalize hw6 : (w5.setCell ⟨nb, 1, none⟩ (.slice va5 ts5.length vc5)) = w6 at *
              have n0' : w6.cell? ⟨nb, 0, none⟩ = some (.int .i64 j) := by rw [← hw6]; exact cellIn (setIn N5.out 1 _) 0 rfl
              have n1' : w6.cell? ⟨nb, 1, none⟩ = some (.slice va5 ts5.length vc5) := by rw [← hw6]; exact cellIn (setIn N5.out 1 _) 1 rfl
              clear hw6 n0 n1 nf1
              go_wp2_with (at_builtin; refine wpList_append_lies _ rfl _ _ _ rfl base 193 i0 _ 2 32 Tryz.underlying169 hi0 hz0 hz1 hz2 rfl (by omega) _ ps.length _ (by rfl) (how6.alloc _) ⟨w6.heap.size, 0, none⟩ 1 1 (partCells ⟨j, ts5⟩ (.slice va5 ts5.length vc5)) (by rfl) (by rfl) (World.news_of_block (cs := (partCells ⟨j, ts5⟩ (.slice va5 ts5.length vc5)).toArray) (t := 193) (fr := (0, 0)) (heap_alloc_new w6 _)) (by simp [partCells, Value.oneCell']) (by omega) (by unfold maxLen; omega) (by omega) (by simp; omega) (w6.heap.size + 1) (by simp) ?_; intro gg cap w4 hown4 hgrow4 hat4 hlt4)
              go_roundg (s.length - at5 + 1)
              case measure => omega
              case rel =>
                refine ⟨ps ++ [⟨j, ts5⟩], vs ++ [.slice va5 ts5.length vc5], at5, ⟨own_rd H6.out hbb how6 hgrow4, ?_, by simpa using hfew6, own_grow ((HL.out.kept.trans HK2.out).trans K6.out) HBASE.out how6 hgrow4, hR.out⟩, rfl⟩
                refine O6.out.push part_lasts ?_ hown4 hgrow4 (by rcases hat4 with h | h; exact .inl h; exact .inr (by omega))
                exact V6.out.kept (S := fun _ => False) (Kept.refl _ _) (fun k _ hs => hs.elim) (fun k _ hx => by
                  rcases hx with hx | hx
                  · show k < wc.heap.size; omega
                  · exact howlt k hx)
end Go.Proofs.YtplbdlgmjehckadGreatDoor

