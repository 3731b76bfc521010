/-
  The reader of sheets: a test.
-/
import Derived.Test.YtplbdlgmjehckabShBase
namespace Go.Proofs.Ytplbdlgmjehckab
open Go.RowKit
set_option linter.unusedVariables false
set_option linter.unusedSimpArgs false

def noTest : PTest := ⟨0, [], []⟩
def testV (t : Option PTest) : Value := .tuple #[.agg (testCells (t.getD noTest)).toArray, .bool t.isSome]

theorem attrTest_name {l nm l1 : B} {a a1 : Nat} (h : sName l a = .ok (nm, l1, a1)) (hn : nm ≠ styleName) : sAttrTest l a =
    if ([61] : B).isPrefixOf l1 then (sName (l1.drop 1) (a1 + 1)).then fun x => (pMust [93] x.2.1 x.2.2).then fun y => .ok ((⟨5, nm, x.1⟩ : PTest), y.1, y.2)
    else (pMust [93] l1 a1).then fun y => .ok ((⟨4, nm, []⟩ : PTest), y.1, y.2) := by
  unfold sAttrTest; rw [h, Ans.ok_then]; simp only; rw [if_neg hn]
theorem attrTest_style {l l1 : B} {a a1 : Nat} (h : sName l a = .ok (styleName, l1, a1)) : sAttrTest l a = .bad ⟨1, a1⟩ := by
  unfold sAttrTest; rw [h, Ans.ok_then]; simp
theorem attrTest_bad {l : B} {a : Nat} {f : Flt} (h : sName l a = .bad f) : sAttrTest l a = .bad f := by unfold sAttrTest; rw [h]; rfl

set_option maxRecDepth 100000 in
set_option maxHeartbeats 3200000 in
theorem stest_sum (w : World) (b : Nat) (s : B) (at_ : Nat) (h : SdAt w b s at_) :
    Calls Try.prog 69 #[.pointer (some ⟨b, 0, none⟩)] w (SSum (sTest (s.drop at_) at_) w b s (fun _ t e => e = .returned (testV t))) := by
  obtain ⟨r, HR⟩ : ∃ r, Hid (sTest (s.drop at_) at_ = r) := ⟨_, rfl⟩
  rw [HR.out]
  obtain ⟨nb, HNB⟩ : ∃ nb, Hid (w.heap.size = nb) := ⟨_, rfl⟩
  obtain ⟨wa, HWA⟩ : ∃ wa, Hid (w.alloc (.cells #[.int .i64 0, .string ⟨#[]⟩, .string ⟨#[]⟩] 77 (0, 0)) = wa) := ⟨_, rfl⟩
  have H : Hid (SdAt wa b s at_) := Lib.hid (by rw [← HWA.out]; exact h.alloc _)
  have HK : Hid (Kept (· = b) w wa) := Lib.hid (by rw [← HWA.out]; exact (Kept.refl _ _).alloc _)
  have HN : Hid (wa.heap[nb]? = some (.cells #[.int .i64 0, .string ⟨#[]⟩, .string ⟨#[]⟩] 77 (0, 0))) := Lib.hid (by rw [← HWA.out, ← HNB.out]; exact newIn _ _)
  have hnb : ¬ nb = b := by have := h.lt; have := HNB.out; omega
  have hl := h.2.1
  have hmx := h.2.2
  clear h
  go_enter Try.func69, Try.ntmps69
  go_wp2_with fail
  rw [HWA.out, HNB.out]
  cases p1 : ([46] : B).isPrefixOf (s.drop at_) with
  | true =>
    refine (seat_is true [46] _ _ _ _ H.out p1).mono ?_
    rintro e w1 ⟨rfl, hk1, h1⟩
    have h1' : SdAt w1 b s (at_ + 1) := h1
    have HE : Hid (((sName (s.drop (at_ + 1)) (at_ + 1)).then fun x => Ans.ok (some (⟨2, x.1, []⟩ : PTest), x.2.1, x.2.2)) = r) := Lib.hid (by rw [← HR.out]; unfold sTest; rw [if_pos p1, List.drop_drop])
    have H1 := Lib.hid h1'
    have K1 := Lib.hid (HK.out.trans hk1)
    have N1 := Lib.hid (hk1.heap hnb HN.out)
    clear p1 hk1 h1 h1'
    go_wp2_with fail
    refine (sname_sum _ _ _ _ H1.out).mono ?_
    rintro e w2 (⟨f, rfl, hk2, hp2⟩ | ⟨nm, at2, rfl, hk2, h2, hp2⟩)
    · have hR : Hid (r = .bad f) := Lib.hid (by rw [← HE.out, hp2.out]; rfl)
      have K2 := Lib.hid (K1.out.trans hk2)
      clear hk2
      go_wp2_with fail
      exact ⟨rfl, .bad K2.out hR.out⟩
    · have hR : Hid (r = .ok (some ⟨2, nm, []⟩, s.drop at2, at2)) := Lib.hid (by rw [← HE.out, hp2.out]; rfl)
      have K2 := Lib.hid (K1.out.trans hk2)
      have H2 := Lib.hid h2
      have hn2 := hk2.heap hnb N1.out
      have N2 := Lib.hid hn2
      have n0 := cellIn hn2 0 rfl
      have n1 := cellIn hn2 1 rfl
      have n2 := cellIn hn2 2 rfl
      have nf0 := freeIn hn2 0
      have nf1 := freeIn hn2 1
      have nf2 := freeIn hn2 2
      clear hk2 h2 hn2
      go_wp2_with fail
      refine bodyPost_ret (v := testV (some ⟨2, nm, []⟩)) (by simp [results, Try.results69, go_sem, n0, n1, n2, testV, testCells]; rfl) rfl ?_
      exact .inr ⟨_, at2, rfl, keep3 (by have := HNB.out; omega) K2.out _ _ _, ((H2.out.other (by exact fun h => hnb h.symm)).other (by exact fun h => hnb h.symm)).other (by exact fun h => hnb h.symm), hR⟩
  | false =>
    have P1 := Lib.hid p1
    refine (seat_no [46] _ _ _ _ H.out p1).mono ?_
    rintro e w0 ⟨rfl, hq0⟩
    have H0 := Lib.hid (H.out.quiet hq0)
    have HK0 := Lib.hid (HK.out.trans ((show Qt wa w0 from hq0).kept _))
    have HN0 := Lib.hid (((show Qt wa w0 from hq0).kept (· = b)).heap hnb HN.out)
    clear p1 hq0 H HK HN
    have H := H0
    have HK := HK0
    have HN := HN0
    clear H0 HK0 HN0
    go_wp2_with fail
    cases p1 : ([35] : B).isPrefixOf (s.drop at_) with
    | true =>
      refine (seat_is true [35] _ _ _ _ H.out p1).mono ?_
      rintro e w1 ⟨rfl, hk1, h1⟩
      have h1' : SdAt w1 b s (at_ + 1) := h1
      have HE : Hid (((sName (s.drop (at_ + 1)) (at_ + 1)).then fun x => Ans.ok (some (⟨3, x.1, []⟩ : PTest), x.2.1, x.2.2)) = r) := Lib.hid (by rw [← HR.out]; unfold sTest; rw [P1.out, if_neg (by simp)]; rw [if_pos p1, List.drop_drop])
      have H1 := Lib.hid h1'
      have K1 := Lib.hid (HK.out.trans hk1)
      have N1 := Lib.hid (hk1.heap hnb HN.out)
      clear p1 hk1 h1 h1'
      go_wp2_with fail
      refine (sname_sum _ _ _ _ H1.out).mono ?_
      rintro e w2 (⟨f, rfl, hk2, hp2⟩ | ⟨nm, at2, rfl, hk2, h2, hp2⟩)
      · have hR : Hid (r = .bad f) := Lib.hid (by rw [← HE.out, hp2.out]; rfl)
        have K2 := Lib.hid (K1.out.trans hk2)
        clear hk2
        go_wp2_with fail
        exact ⟨rfl, .bad K2.out hR.out⟩
      · have hR : Hid (r = .ok (some ⟨3, nm, []⟩, s.drop at2, at2)) := Lib.hid (by rw [← HE.out, hp2.out]; rfl)
        have K2 := Lib.hid (K1.out.trans hk2)
        have H2 := Lib.hid h2
        have hn2 := hk2.heap hnb N1.out
        have N2 := Lib.hid hn2
        have n0 := cellIn hn2 0 rfl
        have n1 := cellIn hn2 1 rfl
        have n2 := cellIn hn2 2 rfl
        have nf0 := freeIn hn2 0
        have nf1 := freeIn hn2 1
        have nf2 := freeIn hn2 2
        clear hk2 h2 hn2
        go_wp2_with fail
        refine bodyPost_ret (v := testV (some ⟨3, nm, []⟩)) (by simp [results, Try.results69, go_sem, n0, n1, n2, testV, testCells]; rfl) rfl ?_
        exact .inr ⟨_, at2, rfl, keep3 (by have := HNB.out; omega) K2.out _ _ _, ((H2.out.other (by exact fun h => hnb h.symm)).other (by exact fun h => hnb h.symm)).other (by exact fun h => hnb h.symm), hR⟩
    | false =>
      have P2 := Lib.hid p1
      obtain ⟨w0_, hw0⟩ : ∃ x, x = w0 := ⟨_, rfl⟩
      subst hw0
      refine (seat_no [35] _ _ _ _ H.out p1).mono ?_
      rintro e w0 ⟨rfl, hq0⟩
      have H0 := Lib.hid (H.out.quiet hq0)
      have HK0 := Lib.hid (HK.out.trans ((show Qt w0_ w0 from hq0).kept _))
      have HN0 := Lib.hid (((show Qt w0_ w0 from hq0).kept (· = b)).heap hnb HN.out)
      clear p1 hq0 H HK HN
      have H := H0
      have HK := HK0
      have HN := HN0
      clear H0 HK0 HN0
      go_wp2_with fail
      cases p1 : firstWord.isPrefixOf (s.drop at_) with
      | true =>
        refine (seat_is true firstWord _ _ _ _ H.out p1).mono ?_
        rintro e w1 ⟨rfl, hk1, h1⟩
        have hR : Hid (r = .ok (some ⟨6, [], []⟩, s.drop (at_ + 6), at_ + 6)) := Lib.hid (by rw [← HR.out]; unfold sTest; rw [P1.out, if_neg (by simp), P2.out, if_neg (by simp), if_pos p1, List.drop_drop])
        have K2 := Lib.hid (HK.out.trans hk1)
        have H2 : Hid (SdAt w1 b s (at_ + 6)) := Lib.hid h1
        have hn2 := hk1.heap hnb HN.out
        have n0 := cellIn hn2 0 rfl
        have n1 := cellIn hn2 1 rfl
        have n2 := cellIn hn2 2 rfl
        have nf0 := freeIn hn2 0
        have nf1 := freeIn hn2 1
        have nf2 := freeIn hn2 2
        clear p1 hk1 h1 hn2
        go_wp2_with fail
        refine bodyPost_ret (v := testV (some ⟨6, [], []⟩)) (by simp [results, Try.results69, go_sem, n0, n1, n2, testV, testCells]; rfl) rfl ?_
        exact .inr ⟨_, at_ + 6, rfl, keep3 (by have := HNB.out; omega) K2.out _ _ _, ((H2.out.other (by exact fun h => hnb h.symm)).other (by exact fun h => hnb h.symm)).other (by exact fun h => hnb h.symm), hR⟩
      | false =>
        have P3 := Lib.hid p1
        obtain ⟨w0__, hw0⟩ : ∃ x, x = w0 := ⟨_, rfl⟩
        subst hw0
        refine (seat_no firstWord _ _ _ _ H.out p1).mono ?_
        rintro e w0 ⟨rfl, hq0⟩
        have H0 := Lib.hid (H.out.quiet hq0)
        have HK0 := Lib.hid (HK.out.trans ((show Qt w0__ w0 from hq0).kept _))
        have HN0 := Lib.hid (((show Qt w0__ w0 from hq0).kept (· = b)).heap hnb HN.out)
        clear p1 hq0 H HK HN
        have H := H0
        have HK := HK0
        have HN := HN0
        clear H0 HK0 HN0
        go_wp2_with fail
        cases p1 : ([91] : B).isPrefixOf (s.drop at_) with
        | true =>
          refine (seat_is true [91] _ _ _ _ H.out p1).mono ?_
          rintro e w1 ⟨rfl, hk1, h1⟩
          have h1' : SdAt w1 b s (at_ + 1) := h1
          have HE : Hid (((sAttrTest (s.drop (at_ + 1)) (at_ + 1)).then fun x => Ans.ok (some x.1, x.2.1, x.2.2)) = r) := Lib.hid (by
            rw [← HR.out]; unfold sTest; rw [P1.out, if_neg (by simp), P2.out, if_neg (by simp), P3.out, if_neg (by simp), if_pos p1, List.drop_drop])
          have H1 := Lib.hid h1'
          have K1 := Lib.hid (HK.out.trans hk1)
          have N1 := Lib.hid (hk1.heap hnb HN.out)
          clear p1 hk1 h1 h1'
          go_wp2_with fail
          refine (sname_sum _ _ _ _ H1.out).mono ?_
          rintro e w2 (⟨f, rfl, hk2, hp2⟩ | ⟨nm, at2, rfl, hk2, h2, hp2⟩)
          · have hR : Hid (r = .bad f) := Lib.hid (by rw [← HE.out, attrTest_bad hp2.out]; rfl)
            have K2 := Lib.hid (K1.out.trans hk2)
            clear hk2
            go_wp2_with fail
            exact ⟨rfl, .bad K2.out hR.out⟩
          · have K2 := Lib.hid (K1.out.trans hk2)
            have H2 := Lib.hid h2
            have N2 := Lib.hid (hk2.heap hnb N1.out)
            clear hk2 h2
            by_cases hst : nm = styleName
            · subst hst
              have hR : Hid (r = .bad ⟨1, at2⟩) := Lib.hid (by rw [← HE.out, attrTest_style hp2.out]; rfl)
              go_wp2_with fail
              refine (sfail_any 1 _ _ _ _ (H2.out.alloc _)).mono ?_
              rintro e w3 ⟨rfl, hq3⟩
              go_wp2_with fail
              exact ⟨rfl, .bad ((K2.out.alloc _).trans (hq3.kept _)) hR.out⟩
            · have hsb : (nm == [115, 116, 121, 108, 101]) = false := by rw [beq_eq_false_iff_ne]; exact hst
              obtain ⟨nb2, HNB2⟩ : ∃ n2, Hid (w2.heap.size = n2) := ⟨_, rfl⟩
              obtain ⟨wb, HWB⟩ : ∃ wb, Hid (w2.alloc (.cells #[.int .i64 4, .string (str nm), .string ⟨#[]⟩] 77 (0, 0)) = wb) := ⟨_, rfl⟩
              have H3 : Hid (SdAt wb b s at2) := Lib.hid (by rw [← HWB.out]; exact H2.out.alloc _)
              have K3 : Hid (Kept (· = b) w wb) := Lib.hid (by rw [← HWB.out]; exact K2.out.alloc _)
              have N3 : Hid (wb.heap[nb]? = some (.cells #[.int .i64 0, .string ⟨#[]⟩, .string ⟨#[]⟩] 77 (0, 0))) := Lib.hid (by rw [← HWB.out]; exact oldIn N2.out _)
              have M3 : Hid (wb.heap[nb2]? = some (.cells #[.int .i64 4, .string (str nm), .string ⟨#[]⟩] 77 (0, 0))) := Lib.hid (by rw [← HWB.out, ← HNB2.out]; exact newIn _ _)
              have hnn : ¬ nb = nb2 := by have := HNB2.out; have := ltIn N2.out; omega
              have hnb2 : ¬ nb2 = b := by have := HNB2.out; have := H2.out.lt; omega
              have hw2 : w.heap.size ≤ nb2 := by have := HNB2.out; have := K2.out.size; omega
              go_wp2_with fail
              rw [HWB.out, HNB2.out]
              clear HWB HNB2 H2 K2 N2
              cases p2 : ([61] : B).isPrefixOf (s.drop at2) with
              | true =>
                refine (seat_is true [61] _ _ _ _ H3.out p2).mono ?_
                rintro e w4 ⟨rfl, hk4, h4⟩
                have h4' : SdAt w4 b s (at2 + 1) := h4
                have HE2 : Hid (((sName (s.drop (at2 + 1)) (at2 + 1)).then fun x => (pMust [93] x.2.1 x.2.2).then fun y => Ans.ok (some (⟨5, nm, x.1⟩ : PTest), y.1, y.2)) = r) := Lib.hid (by
                  rw [← HE.out, attrTest_name hp2.out hst, if_pos p2, List.drop_drop]
                  cases sName (s.drop (at2 + 1)) (at2 + 1) with
                  | bad f => rfl
                  | ok x =>
                    simp only [Ans.ok_then]
                    cases pMust [93] x.2.1 x.2.2 <;> rfl)
                have H4 := Lib.hid h4'
                have K4 := Lib.hid (K3.out.trans hk4)
                have N4 := Lib.hid (hk4.heap hnb N3.out)
                have M4 := Lib.hid (hk4.heap hnb2 M3.out)
                have HP2 := Lib.hid p2
                clear p2 hk4 h4 h4'
                go_wp2_with fail
                refine (sname_sum _ _ _ _ H4.out).mono ?_
                rintro e w5 (⟨f, rfl, hk5, hp5⟩ | ⟨v, at5, rfl, hk5, h5, hp5⟩)
                · have hR : Hid (r = .bad f) := Lib.hid (by rw [← HE2.out, hp5.out]; rfl)
                  have K5 := Lib.hid (K4.out.trans hk5)
                  clear hk5
                  go_wp2_with fail
                  exact ⟨rfl, .bad K5.out hR.out⟩
                · have HE3 : Hid (((pMust [93] (s.drop at5) at5).then fun y => Ans.ok (some (⟨5, nm, v⟩ : PTest), y.1, y.2)) = r) := Lib.hid (by rw [← HE2.out, hp5.out]; rfl)
                  have K5 := Lib.hid (K4.out.trans hk5)
                  have H5 := Lib.hid h5
                  have N5 := Lib.hid (hk5.heap hnb N4.out)
                  have M5 := Lib.hid (hk5.heap hnb2 M4.out)
                  have m0 := cellIn M5.out 0 rfl
                  have m2 := cellIn M5.out 2 rfl
                  have mf0 := freeIn M5.out 0
                  have mf2 := freeIn M5.out 2
                  clear hk5 h5
                  go_wp2_with fail
                  have HA := Lib.hid ((H5.out.other (p := ⟨nb2, 0, none⟩) (x := .int .i64 5) (by exact fun h => hnb2 h.symm)).other (p := ⟨nb2, 2, none⟩) (x := .string (str v)) (by exact fun h => hnb2 h.symm))
                  have KA := Lib.hid ((K5.out.setCell (p := ⟨nb2, 0, none⟩) (.inr hw2) (.int .i64 5)).setCell (p := ⟨nb2, 2, none⟩) (.inr hw2) (.string (str v)))
                  have NA := Lib.hid (otherIn (otherIn N5.out ⟨nb2, 0, none⟩ (.int .i64 5) hnn) ⟨nb2, 2, none⟩ (.string (str v)) hnn)
                  have MA : Hid (((w5.setCell ⟨nb2, 0, none⟩ (.int .i64 5)).setCell ⟨nb2, 2, none⟩ (.string (str v))).heap[nb2]? = some (.cells #[.int .i64 5, .string (str nm), .string (str v)] 77 (0, 0))) := Lib.hid (by
                    have := setIn (setIn M5.out 0 (.int .i64 5)) 2 (.string (str v))
                    simpa using this)
                  clear m0 m2 mf0 mf2
                  generalize ((w5.setCell ⟨nb2, 0, none⟩ (.int .i64 5)).setCell ⟨nb2, 2, none⟩ (.string (str v))) = w6 at *
                  refine (smust_sum [93] _ _ _ _ HA.out).mono ?_
                  rintro e w7 (⟨f, rfl, hk7, hp7⟩ | ⟨at7, rfl, hk7, h7, hp7⟩)
                  · have hR : Hid (r = .bad f) := Lib.hid (by rw [← HE3.out, hp7.out]; rfl)
                    have K7 := Lib.hid (KA.out.trans hk7)
                    clear hk7
                    go_wp2_with fail
                    exact ⟨rfl, .bad K7.out hR.out⟩
                  · have hR : Hid (r = .ok (some ⟨5, nm, v⟩, s.drop at7, at7)) := Lib.hid (by rw [← HE3.out, hp7.out]; rfl)
                    have K7 := Lib.hid (KA.out.trans hk7)
                    have H7 := Lib.hid h7
                    have hn7 := hk7.heap hnb NA.out
                    have hm7 := hk7.heap hnb2 MA.out
                    have n0 := cellIn hn7 0 rfl
                    have n1 := cellIn hn7 1 rfl
                    have n2 := cellIn hn7 2 rfl
                    have nf0 := freeIn hn7 0
                    have nf1 := freeIn hn7 1
                    have nf2 := freeIn hn7 2
                    have m0 := cellIn hm7 0 rfl
                    have m1 := cellIn hm7 1 rfl
                    have m2 := cellIn hm7 2 rfl
                    clear hk7 h7 hn7 hm7
                    go_wp2_with fail
                    refine bodyPost_ret (v := testV (some ⟨5, nm, v⟩)) (by simp [results, Try.results69, go_sem, n0, n1, n2, testV, testCells]; try rfl) rfl ?_
                    exact .inr ⟨_, at7, rfl, keep3 (by have := HNB.out; omega) K7.out _ _ _, ((H7.out.other (by exact fun h => hnb h.symm)).other (by exact fun h => hnb h.symm)).other (by exact fun h => hnb h.symm), hR⟩
              | false =>
                have HE3 : Hid (((pMust [93] (s.drop at2) at2).then fun y => Ans.ok (some (⟨4, nm, []⟩ : PTest), y.1, y.2)) = r) := Lib.hid (by
                  rw [← HE.out, attrTest_name hp2.out hst, p2, if_neg (by simp)]
                  cases pMust [93] (s.drop at2) at2 <;> rfl)
                refine (seat_no [61] _ _ _ _ H3.out p2).mono ?_
                rintro e w4 ⟨rfl, hq4⟩
                have hqk : Kept (· = b) wb w4 := (show Qt wb w4 from hq4).kept _
                have HA := Lib.hid (H3.out.quiet hq4)
                have KA := Lib.hid (K3.out.trans hqk)
                have NA := Lib.hid (hqk.heap hnb N3.out)
                have MA := Lib.hid (hqk.heap hnb2 M3.out)
                clear p2 hq4 hqk
                go_wp2_with fail
                refine (smust_sum [93] _ _ _ _ HA.out).mono ?_
                rintro e w7 (⟨f, rfl, hk7, hp7⟩ | ⟨at7, rfl, hk7, h7, hp7⟩)
                · have hR : Hid (r = .bad f) := Lib.hid (by rw [← HE3.out, hp7.out]; rfl)
                  have K7 := Lib.hid (KA.out.trans hk7)
                  clear hk7
                  go_wp2_with fail
                  exact ⟨rfl, .bad K7.out hR.out⟩
                · have hR : Hid (r = .ok (some ⟨4, nm, []⟩, s.drop at7, at7)) := Lib.hid (by rw [← HE3.out, hp7.out]; rfl)
                  have K7 := Lib.hid (KA.out.trans hk7)
                  have H7 := Lib.hid h7
                  have hn7 := hk7.heap hnb NA.out
                  have hm7 := hk7.heap hnb2 MA.out
                  have n0 := cellIn hn7 0 rfl
                  have n1 := cellIn hn7 1 rfl
                  have n2 := cellIn hn7 2 rfl
                  have nf0 := freeIn hn7 0
                  have nf1 := freeIn hn7 1
                  have nf2 := freeIn hn7 2
                  have m0 := cellIn hm7 0 rfl
                  have m1 := cellIn hm7 1 rfl
                  have m2 := cellIn hm7 2 rfl
                  clear hk7 h7 hn7 hm7
                  go_wp2_with fail
                  refine bodyPost_ret (v := testV (some ⟨4, nm, []⟩)) (by simp [results, Try.results69, go_sem, n0, n1, n2, testV, testCells]; try rfl) rfl ?_
                  exact .inr ⟨_, at7, rfl, keep3 (by have := HNB.out; omega) K7.out _ _ _, ((H7.out.other (by exact fun h => hnb h.symm)).other (by exact fun h => hnb h.symm)).other (by exact fun h => hnb h.symm), hR⟩
        | false =>
          refine (seat_no [91] _ _ _ _ H.out p1).mono ?_
          rintro e w1 ⟨rfl, hq1⟩
          have hR : Hid (r = .ok (none, s.drop at_, at_)) := Lib.hid (by rw [← HR.out]; unfold sTest; rw [P1.out, if_neg (by simp), P2.out, if_neg (by simp), P3.out, if_neg (by simp), p1, if_neg (by simp)])
          have hqk : Kept (· = b) w0 w1 := (show Qt w0 w1 from hq1).kept _
          have K2 := Lib.hid (HK.out.trans hqk)
          have H2 := Lib.hid (H.out.quiet hq1)
          have hn2 := hqk.heap hnb HN.out
          have n0 := cellIn hn2 0 rfl
          have n1 := cellIn hn2 1 rfl
          have n2 := cellIn hn2 2 rfl
          have nf0 := freeIn hn2 0
          have nf1 := freeIn hn2 1
          have nf2 := freeIn hn2 2
          clear p1 hq1 hqk hn2
          go_wp2_with fail
          refine bodyPost_ret (v := testV none) (by simp [results, Try.results69, go_sem, n0, n1, n2, testV, testCells, noTest]; rfl) rfl ?_
          exact .inr ⟨_, at_, rfl, keep3 (by have := HNB.out; omega) K2.out _ _ _, ((H2.out.other (by exact fun h => hnb h.symm)).other (by exact fun h => hnb h.symm)).other (by exact fun h => hnb h.symm), hR⟩

end Go.Proofs.Ytplbdlgmjehckab
