/-
  The reader of sheets: a selector.
-/
import Derived.Test.YtplbdlgmjehckabShMem
namespace Go.Proofs.Ytplbdlgmjehckab
open Go.RowKit
set_option linter.unusedVariables false
set_option linter.unusedSimpArgs false

abbrev PartOwn := NestOwn partCells 2 75 (fun w X u (p : PPart) => TestsIn w X u p.tests)

theorem sSelL_step {f : Nat} {ps : List PPart} {l : B} {a : Nat} {r : Ans (PSel × B × Nat)} (h : sSelL (f + 1) ps l a = r) :
    ((sJoin l a).then fun x => match x.1 with
    | none => .ok (ps, x.2.1, x.2.2)
    | some j => if ps.length = 6 then .bad ⟨5, x.2.2⟩ else (sTests x.2.1 x.2.2).then fun y => sSelL f (ps ++ [⟨j, y.1⟩]) y.2.1 y.2.2) = r := by
  rw [← h, sSelL]
  cases sJoin l a with
  | bad f => rfl
  | ok x =>
    obtain ⟨t, l1, a1⟩ := x
    cases t <;> rfl

theorem selEnds_cons {l t : B} {c : UInt8} (h : l = c :: t) : selEnds true l = ((c == 44) || (c == 123)) := by
  rw [h]; unfold selEnds; rw [one_prefix, one_prefix]; simp
/-- at the head of the loop over a selector's parts -/
structure PLoop (w wr : World) (b : Nat) (s : B) (base : Nat) (r : Ans (PSel × B × Nat)) (l : Value) (ps : List PPart) (vs : List Value) (at' : Nat) : Prop where
  rd : SdAt wr b s at'
  own : PartOwn wr base l ps vs
  few : ps.length ≤ 6
  kept : Kept (· = b) w wr
  rest : ∃ f, (s.drop at').length < f ∧ sSelL f ps (s.drop at') at' = r

theorem first_part {w : World} {b base : Nat} {v : Value} {ts : List PTest} (hb : base ≤ w.heap.size) (h : TestsIn w (fun k => k < base) v ts) :
    PartOwn (w.alloc (.cells #[.int .i64 0, v] 75 (0, 0))) base (.slice (some ⟨w.heap.size, 0, none⟩) 1 1) [⟨0, ts⟩] [v] := by
  refine ⟨rfl, ⟨rfl, .inr ⟨w.heap.size, 1, _, rfl, hb, newIn _ _, Nat.le_refl _, by unfold maxLen; omega, rfl, rfl⟩⟩, ?_⟩
  intro i p u hp hu
  have hi : i = 0 := by have := (List.getElem?_eq_some_iff.1 hp).1; simp at this; exact this
  subst hi
  simp at hp hu
  subst hp; subst hu
  refine h.kept (S := fun _ => False) ((Kept.refl _ _).alloc _) (fun k _ hs => hs.elim) (fun k hk hx => ?_)
  rcases hx with hx | hx
  · exact hx
  · simp only [Value.ownBlock, Option.some.injEq] at hx; omega

set_option maxRecDepth 100000 in
set_option maxHeartbeats 3200000 in
theorem ssel_sum (w : World) (b : Nat) (s : B) (at_ : Nat) (m : Int) (h : SdAt w b s at_) (hm : w.cell? ⟨0, 0, none⟩ = some (.int .i64 m)) (hb0 : 0 < b) :
    Calls Try.prog 50 #[.pointer (some ⟨b, 0, none⟩)] w (SSum (sSel (s.drop at_) at_) w b s (fun w' ps e => ∃ v, e = .returned v ∧ PartsIn w' (fun k => k < w.heap.size) v ps)) := by
  obtain ⟨r, HR⟩ : ∃ r, Hid (sSel (s.drop at_) at_ = r) := ⟨_, rfl⟩
  rw [HR.out]
  have HM := Lib.hid hm
  obtain ⟨i0, hi0, hz0, hz1, hz2⟩ := info_parts info_part
  obtain ⟨base, HBASE⟩ : ∃ base, Hid (w.heap.size = base) := ⟨_, rfl⟩
  have hbb : b < base := by have := h.lt; have := HBASE.out; omega
  have H := Lib.hid h
  have hl := h.2.1
  have hmx := h.2.2
  clear h hm
  rw [HBASE.out]
  go_enter Try.func50, Try.ntmps50
  go_wp2_with fail
  refine (stests_sum _ _ _ _ H.out).mono ?_
  rintro e w1 (⟨f, rfl, hk1, hp1⟩ | ⟨ts, at1, ⟨v, rfl, hv⟩, hk1, h1, hp1⟩)
  · have hR : Hid (r = .bad f) := Lib.hid (by rw [← HR.out]; unfold sSel; rw [hp1.out]; rfl)
    have K1 := Lib.hid hk1
    clear hk1
    go_wp2_with fail
    exact ⟨rfl, .bad K1.out hR.out⟩
  · have hsz : base ≤ w1.heap.size := by have := hk1.size; have := HBASE.out; omega
    rw [HBASE.out] at hv
    obtain ⟨va, vc, rfl⟩ : ∃ a c, v = .slice a ts.length c := by
      obtain ⟨a, cap, h, _⟩ := hv.1; exact ⟨a, cap, by simpa using h⟩
    have hP0 : PLoop w (w1.alloc (.cells #[.int .i64 0, .slice va ts.length vc] 75 (0, 0))) b s base r (.slice (some ⟨w1.heap.size, 0, none⟩) 1 1) [⟨0, ts⟩] [.slice va ts.length vc] at1 :=
      ⟨h1.alloc _, first_part (b := b) hsz hv, by simp, hk1.alloc _, _, Nat.lt_succ_self _, by rw [← HR.out]; unfold sSel; rw [hp1.out]; rfl⟩
    have HP0 := Lib.hid hP0
    have hl1 := h1.2.1
    clear hv hk1 h1 hP0
    go_upto_block 0 with fail
    generalize (w1.alloc (.cells #[.int .i64 0, .slice va ts.length vc] 75 (0, 0))) = wa at *
    clear HR hp1
    go_wp2_with fail
    go_loopg [3] (s.length - at1 + 1) (fun k l wr => ∃ ps vs at', PLoop w wr b s base r l ps vs at' ∧ k = s.length - at' + 1)
    case atStart => exact ⟨_, _, at1, HP0.out, rfl⟩
    case round =>
      obtain ⟨ps, vs, at', hL, hk⟩ := hrel
      have HL := Lib.hid hL
      have hfew := hL.few
      have hl' := hL.rd.2.1
      obtain ⟨lo, lc, rfl⟩ := hL.own.form
      have hmr : wr.cell? ⟨0, 0, none⟩ = some (.int .i64 m) := hL.kept.cell (by show ¬ (0 = b); omega) HM.out
      have HMR := Lib.hid hmr
      have HREST : Hid (∃ f, (s.drop at').length < f + 1 ∧ ((sJoin (s.drop at') at').then fun x => match x.1 with
        | none => .ok (ps, x.2.1, x.2.2)
        | some j => if ps.length = 6 then .bad ⟨5, x.2.2⟩ else (sTests x.2.1 x.2.2).then fun y => sSelL f (ps ++ [⟨j, y.1⟩]) y.2.1 y.2.2) = r) := Lib.hid (by
          obtain ⟨f, hf, hr⟩ := hL.rest
          cases f with
          | zero => omega
          | succ f => exact ⟨f, hf, sSelL_step hr⟩)
      obtain ⟨f, hf, hrr⟩ := HREST.out
      have HRR := Lib.hid hrr
      clear hL hmr hrr HREST
      go_wp2_with fail
      refine (sblank_sum _ _ _ _ m HL.out.rd HMR.out hb0).mono ?_
      rintro e w2 (⟨g, rfl, hk2, hp2⟩ | ⟨at2, rfl, hk2, h2, hp2⟩)
      · have hR : Hid (r = .bad g) := Lib.hid (by rw [← HRR.out]; unfold sJoin; rw [hp2.out]; rfl)
        have K2 := Lib.hid (HL.out.kept.trans hk2)
        clear hk2
        go_wp2_with fail
        exact ⟨rfl, .bad K2.out hR.out⟩
      · have O2 := Lib.hid (HL.out.own.kept part_lasts hbb hk2)
        have K2 := Lib.hid (HL.out.kept.trans hk2)
        have H2 := Lib.hid h2
        have hl2 := h2.2.1
        have HKW := Lib.hid hk2
        clear hk2 h2
        obtain ⟨gb, HGB⟩ : ∃ g, Hid (decide (at' < at2) = g) := ⟨_, rfl⟩
        rw [HGB.out]
        go_upto_block 2 with fail
        obtain ⟨nb, HNB⟩ : ∃ nb, Hid (w2.heap.size = nb) := ⟨_, rfl⟩
        obtain ⟨wb, HWB⟩ : ∃ wb, Hid (w2.alloc (.cells #[.int .i64 1, .slice none 0 0] 75 (0, 0)) = wb) := ⟨_, rfl⟩
        have H3 : Hid (SdAt wb b s at2) := Lib.hid (by rw [← HWB.out]; exact H2.out.alloc _)
        have K3 : Hid (Kept (· = b) w2 wb) := Lib.hid (by rw [← HWB.out]; exact (Kept.refl _ _).alloc _)
        have N3 : Hid (wb.heap[nb]? = some (.cells #[.int .i64 1, .slice none 0 0] 75 (0, 0))) := Lib.hid (by rw [← HWB.out, ← HNB.out]; exact newIn _ _)
        have hnb : ¬ nb = b := by have := H2.out.lt; have := HNB.out; omega
        have hnb2 : w2.heap.size ≤ nb := by have := HNB.out; omega
        have HK2 : Hid (Kept (· = b) wr w2) := Lib.hid HKW.out
        have HM2 : Hid (w2.cell? ⟨0, 0, none⟩ = some (.int .i64 m)) := Lib.hid (K2.out.cell (by show ¬ (0 = b); omega) HM.out)
        rw [HWB.out, HNB.out]
        go_cut [] (fun wx => ∃ (j : Int) (at3 : Nat), SdAt wx b s at3 ∧ Kept (· = b) w2 wx ∧ wx.heap[nb]? = some (.cells #[.int .i64 j, .slice none 0 0] 75 (0, 0)) ∧ Hid (sJoin (s.drop at') at' = .ok (some j, s.drop at3, at3)))
        case first =>
          go_wp2_with fail
          cases p1 : ([62] : B).isPrefixOf (s.drop at2) with
          | true =>
            refine (seat_is true [62] _ _ _ _ H3.out p1).mono ?_
            rintro e w4 ⟨rfl, hk4, h4⟩
            have h4' : SdAt w4 b s (at2 + 1) := h4
            have HJ : Hid (((sGap (s.drop (at2 + 1)) (at2 + 1)).then fun x => Ans.ok (some (2 : Int), x.1, x.2)) = sJoin (s.drop at') at') := Lib.hid (by
              unfold sJoin; rw [hp2.out, Ans.ok_then]; simp only; rw [if_pos p1, List.drop_drop])
            have hn4 := hk4.heap hnb N3.out
            have n0 := cellIn hn4 0 rfl
            have nf0 := freeIn hn4 0
            have K4 := Lib.hid (K3.out.trans hk4)
            have H4 := Lib.hid h4'
            have N4 := Lib.hid hn4
            clear hk4 h4 h4' hn4 p1
            go_wp2_with fail
            have hb5 : b ≠ nb := fun hh => hnb hh.symm
            have h5 := H4.out.other (p := ⟨nb, 0, none⟩) (x := .int .i64 2) hb5
            have hn5 : (w4.setCell ⟨nb, 0, none⟩ (.int .i64 2)).heap[nb]? = some (.cells #[.int .i64 2, .slice none 0 0] 75 (0, 0)) := by
              have := setIn N4.out 0 (.int .i64 2)
              simpa using this
            have K5 := Lib.hid (K4.out.setCell (p := ⟨nb, 0, none⟩) (.inr hnb2) (.int .i64 2))
            have H5 := Lib.hid h5
            have N5 := Lib.hid hn5
            have hmr5 := Lib.hid (K5.out.cell (by show ¬ (0 = b); omega) HM2.out)
            clear h5 hn5 n0 nf0
            generalize (w4.setCell ⟨nb, 0, none⟩ (.int .i64 2)) = w5 at *
            refine (sblank_sum _ _ _ _ m H5.out hmr5.out hb0).mono ?_
            rintro e w6 (⟨g, rfl, hk6, hp6⟩ | ⟨at6, rfl, hk6, h6, hp6⟩)
            · have hR : Hid (r = .bad g) := Lib.hid (by rw [← HRR.out, ← HJ.out, hp6.out]; rfl)
              have K6 := Lib.hid ((HL.out.kept.trans HK2.out).trans (K5.out.trans hk6))
              clear hk6
              go_wp2_with fail
              exact ⟨rfl, .bad K6.out hR.out⟩
            · have K6 := Lib.hid (K5.out.trans hk6)
              have H6 := Lib.hid h6
              have N6 := Lib.hid (hk6.heap hnb N5.out)
              have HJ6 : Hid (sJoin (s.drop at') at' = .ok (some 2, s.drop at6, at6)) := Lib.hid (by rw [← HJ.out, hp6.out]; rfl)
              clear hk6 h6
              go_wp2_with fail
              go_meet
              case rel => exact ⟨2, at6, H6.out, K6.out, N6.out, HJ6⟩
          | false =>
            have P1 := Lib.hid p1
            refine (seat_no [62] _ _ _ _ H3.out p1).mono ?_
            rintro e w4 ⟨rfl, hq4⟩
            have hqk : Kept (· = b) wb w4 := (show Qt wb w4 from hq4).kept _
            have H3' := Lib.hid (H3.out.quiet hq4)
            have K3' := Lib.hid (K3.out.trans hqk)
            have N3' := Lib.hid (hqk.heap hnb N3.out)
            clear p1 hq4 hqk HWB H3 K3 N3
            have H3 := H3'
            have K3 := K3'
            have N3 := N3'
            clear H3' K3' N3'
            obtain ⟨w4_, hw4⟩ : ∃ x, x = w4 := ⟨_, rfl⟩
            subst hw4
            go_wp2_with fail
            cases p1 : ([43] : B).isPrefixOf (s.drop at2) with
            | true =>
              refine (seat_is true [43] _ _ _ _ H3.out p1).mono ?_
              rintro e w4 ⟨rfl, hk4, h4⟩
              have h4' : SdAt w4 b s (at2 + 1) := h4
              have HJ : Hid (((sGap (s.drop (at2 + 1)) (at2 + 1)).then fun x => Ans.ok (some (3 : Int), x.1, x.2)) = sJoin (s.drop at') at') := Lib.hid (by
                unfold sJoin; rw [hp2.out, Ans.ok_then]; simp only; rw [P1.out, if_neg (by simp)]; rw [if_pos p1, List.drop_drop])
              have hn4 := hk4.heap hnb N3.out
              have n0 := cellIn hn4 0 rfl
              have nf0 := freeIn hn4 0
              have K4 := Lib.hid (K3.out.trans hk4)
              have H4 := Lib.hid h4'
              have N4 := Lib.hid hn4
              clear hk4 h4 h4' hn4 p1
              go_wp2_with fail
              have hb5 : b ≠ nb := fun hh => hnb hh.symm
              have h5 := H4.out.other (p := ⟨nb, 0, none⟩) (x := .int .i64 3) hb5
              have hn5 : (w4.setCell ⟨nb, 0, none⟩ (.int .i64 3)).heap[nb]? = some (.cells #[.int .i64 3, .slice none 0 0] 75 (0, 0)) := by
                have := setIn N4.out 0 (.int .i64 3)
                simpa using this
              have K5 := Lib.hid (K4.out.setCell (p := ⟨nb, 0, none⟩) (.inr hnb2) (.int .i64 3))
              have H5 := Lib.hid h5
              have N5 := Lib.hid hn5
              have hmr5 := Lib.hid (K5.out.cell (by show ¬ (0 = b); omega) HM2.out)
              clear h5 hn5 n0 nf0
              generalize (w4.setCell ⟨nb, 0, none⟩ (.int .i64 3)) = w5 at *
              refine (sblank_sum _ _ _ _ m H5.out hmr5.out hb0).mono ?_
              rintro e w6 (⟨g, rfl, hk6, hp6⟩ | ⟨at6, rfl, hk6, h6, hp6⟩)
              · have hR : Hid (r = .bad g) := Lib.hid (by rw [← HRR.out, ← HJ.out, hp6.out]; rfl)
                have K6 := Lib.hid ((HL.out.kept.trans HK2.out).trans (K5.out.trans hk6))
                clear hk6
                go_wp2_with fail
                exact ⟨rfl, .bad K6.out hR.out⟩
              · have K6 := Lib.hid (K5.out.trans hk6)
                have H6 := Lib.hid h6
                have N6 := Lib.hid (hk6.heap hnb N5.out)
                have HJ6 : Hid (sJoin (s.drop at') at' = .ok (some 3, s.drop at6, at6)) := Lib.hid (by rw [← HJ.out, hp6.out]; rfl)
                clear hk6 h6
                go_wp2_with fail
                go_meet
                case rel => exact ⟨3, at6, H6.out, K6.out, N6.out, HJ6⟩
            | false =>
              have P2 := Lib.hid p1
              refine (seat_no [43] _ _ _ _ H3.out p1).mono ?_
              rintro e w4 ⟨rfl, hq4⟩
              have hqk : Kept (· = b) w4_ w4 := (show Qt w4_ w4 from hq4).kept _
              have H4 := Lib.hid (H3.out.quiet hq4)
              have K4 := Lib.hid (K3.out.trans hqk)
              have N4 := Lib.hid (hqk.heap hnb N3.out)
              clear p1 hq4 hqk
              have c0 := H4.out.c0
              have c1 := H4.out.c1
              have HJ : Hid (sJoin (s.drop at') at' = if selEnds gb (s.drop at2) then .ok (none, s.drop at2, at2) else .ok (some 1, s.drop at2, at2)) := Lib.hid (by
                unfold sJoin; rw [hp2.out, Ans.ok_then]; simp only; rw [P1.out, if_neg (by simp), P2.out, if_neg (by simp), HGB.out])
              obtain ⟨se, HSE⟩ : ∃ x, Hid (selEnds gb (s.drop at2) = x) := ⟨_, rfl⟩
              rw [HSE.out] at HJ
              go_upto_region 10 with fail
              go_cut [25] (fun x wx => x = .bool se ∧ Qt w4 wx)
              case first =>
                cases gb with
                | false =>
                  obtain rfl : se = true := by rw [← HSE.out]; rfl
                  go_wp2_with fail
                  go_quiet (fail)
                  go_wp2_with fail
                  go_meet
                  case rel => exact ⟨rfl, _, rfl⟩
                | true =>
                  by_cases hlt : at2 < s.length
                  · have e0 : ((at2 : Int) == (s.length : Int)) = false := by simp; omega
                    have hd := List.drop_eq_getElem_cons hlt
                    have HSEV : Hid (se = (((s[at2]'hlt) == 44) || ((s[at2]'hlt) == 123))) := Lib.hid (by
                      rw [← HSE.out]; exact selEnds_cons hd)
                    clear hd
                    cases e1 : (((s[at2]'hlt).toNat : Int) == 44) with
                    | true =>
                      obtain rfl : se = true := by
                        rw [HSEV.out]
                        have : s[at2]'hlt = 44 := UInt8.toNat_inj.1 (by simp at e1; have : (44 : UInt8).toNat = 44 := rfl; omega)
                        rw [this]; rfl
                      go_wp2_with fail
                      go_quiet (fail)
                      go_wp2_with fail
                      go_meet
                      case rel => exact ⟨rfl, _, rfl⟩
                    | false =>
                      have hne : ¬ s[at2]'hlt = 44 := fun h => by rw [h] at e1; cases e1
                      cases e2 : (((s[at2]'hlt).toNat : Int) == 123) with
                      | true =>
                        obtain rfl : se = true := by
                          rw [HSEV.out]
                          have : s[at2]'hlt = 123 := UInt8.toNat_inj.1 (by simp at e2; have : (123 : UInt8).toNat = 123 := rfl; omega)
                          rw [this]; rfl
                        clear hne
                        go_wp2_with fail
                        go_quiet (fail)
                        go_wp2_with fail
                        go_meet
                        case rel => exact ⟨rfl, _, rfl⟩
                      | false =>
                        have hne2 : ¬ s[at2]'hlt = 123 := fun h => by rw [h] at e2; cases e2
                        obtain rfl : se = false := by rw [HSEV.out]; simp [hne, hne2]
                        clear hne hne2
                        go_wp2_with fail
                        go_quiet (fail)
                        go_wp2_with fail
                        go_meet
                        case rel => exact ⟨rfl, _, rfl⟩
                  · have e0 : ((at2 : Int) == (s.length : Int)) = true := by simp; omega
                    obtain rfl : se = true := by rw [← HSE.out, List.drop_eq_nil_of_le (by omega)]; rfl
                    go_wp2_with fail
                    go_quiet (fail)
                    go_wp2_with fail
                    go_meet
                    case rel => exact ⟨rfl, _, rfl⟩
              case rest =>
                obtain ⟨rfl, hq5⟩ := hcut
                have K5 := Lib.hid (K4.out.trans (hq5.kept _))
                have H5 := Lib.hid (H4.out.quiet hq5)
                have N5 := Lib.hid ((hq5.kept (· = b)).heap hnb N4.out)
                clear hq5 c0 c1
                cases se with
                | true =>
                  have hR : Hid (r = .ok (ps, s.drop at2, at2)) := Lib.hid (by rw [← HRR.out, HJ.out]; rfl)
                  have hP := ((HL.out.own.kept part_lasts hbb (HK2.out.trans K5.out)).done partCells_len part_lasts)
                  have HPP := Lib.hid hP
                  clear hP
                  go_wp2_with fail
                  go_ret
                  exact .inr ⟨ps, at2, ⟨_, rfl, HPP.out⟩, (HL.out.kept.trans HK2.out).trans K5.out, H5.out, hR⟩
                | false =>
                  have HJ1 : Hid (sJoin (s.drop at') at' = .ok (some 1, s.drop at2, at2)) := Lib.hid (by rw [HJ.out]; rfl)
                  go_wp2_with fail
                  go_meet
                  case rel => exact ⟨1, at2, H5.out, K5.out, N5.out, HJ1⟩
        case rest =>
          obtain ⟨j, at3, hs3, hk3, hn3, HJ⟩ := hcut
          have H3' := Lib.hid hs3
          have K3' := Lib.hid hk3
          have N3' := Lib.hid hn3
          have hl3 := hs3.2.1
          have hlt3 : at' ≤ at3 := by
            obtain ⟨t, h1, h2, _⟩ := join_loc _ _ _ _ _ HJ.out
            omega
          clear hs3 hk3 hn3
          by_cases h6 : ps.length = 6
          · have e6 : ((ps.length : Int) == 6) = true := by simp; omega
            have hR : Hid (r = .bad ⟨5, at3⟩) := Lib.hid (by rw [← HRR.out, HJ.out, Ans.ok_then]; simp only; rw [if_pos h6])
            clear h6
            go_wp2_with fail
            refine (sfail_any 5 _ _ _ _ H3'.out).mono ?_
            rintro e w9 ⟨rfl, hq9⟩
            go_wp2_with fail
            exact ⟨rfl, .bad (((HL.out.kept.trans HK2.out).trans K3'.out).trans (hq9.kept _)) hR.out⟩
          · have e6 : ((ps.length : Int) == 6) = false := by simp; omega
            have HRT : Hid (((sTests (s.drop at3) at3).then fun y => sSelL f (ps ++ [⟨j, y.1⟩]) y.2.1 y.2.2) = r) := Lib.hid (by rw [← HRR.out, HJ.out, Ans.ok_then]; simp only; rw [if_neg h6])
            have hfew6 : ps.length + 1 ≤ 6 := by omega
            clear h6
            go_wp2_with fail
            refine (stests_sum _ _ _ _ H3'.out).mono ?_
            rintro e w5 (⟨g, rfl, hk5, hp5⟩ | ⟨ts5, at5, ⟨v5, rfl, hv5⟩, hk5, h5, hp5⟩)
            · have hR : Hid (r = .bad g) := Lib.hid (by rw [← HRT.out, hp5.out]; rfl)
              have K5 := Lib.hid (((HL.out.kept.trans HK2.out).trans K3'.out).trans hk5)
              clear hk5
              go_wp2_with fail
              exact ⟨rfl, .bad K5.out hR.out⟩
            · obtain ⟨va5, vc5, rfl⟩ : ∃ a c, v5 = .slice a ts5.length c := by
                obtain ⟨a, cap, h, _⟩ := hv5.1; exact ⟨a, cap, by simpa using h⟩
              have hR : Hid (∃ g, (s.drop at5).length < g ∧ sSelL g (ps ++ [⟨j, ts5⟩]) (s.drop at5) at5 = r) := Lib.hid (by
                have := HRT.out
                rw [hp5.out, Ans.ok_then] at this
                have hlt5 := tests_loc.2 _ _ _ _ _ hp5.out
                have := h5.2.1
                exact ⟨f, by rw [List.length_drop] at hf ⊢; omega, by assumption⟩)
              have hlt5 := tests_loc.2 _ _ _ _ _ hp5.out
              have hl5 := h5.2.1
              have hn5 := hk5.heap hnb N3'.out
              have n0 := cellIn hn5 0 rfl
              have n1 := cellIn hn5 1 rfl
              have nf1 := freeIn hn5 1
              have N5 := Lib.hid hn5
              have H5 := Lib.hid h5
              have K5 := Lib.hid (K3'.out.trans hk5)
              have V5 := Lib.hid hv5
              have hnlt : nb < wc.heap.size := ltIn N3'.out
              clear hk5 h5 hn5 hv5
              have hnbb : b ≠ nb := fun hh => hnb hh.symm
              -- behind the store
              have h6 := H5.out.other (p := ⟨nb, 1, none⟩) (x := .slice va5 ts5.length vc5) hnbb
              have k6 := K5.out.setCell (p := ⟨nb, 1, none⟩) (.inr hnb2) (.slice va5 ts5.length vc5)
              have v6 : TestsIn (w5.setCell ⟨nb, 1, none⟩ (.slice va5 ts5.length vc5)) (fun k => k < wc.heap.size) (.slice va5 ts5.length vc5) ts5 :=
                V5.out.kept (S := (· = nb)) ((Kept.refl (· = nb) _).setCell (p := ⟨nb, 1, none⟩) (.inl rfl) _) (fun k _ hs => by have : k = nb := hs; omega) (fun k _ hx => hx)
              have o6 := HL.out.own.kept part_lasts hbb (HK2.out.trans k6)
              have hsz6 : base ≤ (w5.setCell ⟨nb, 1, none⟩ (.slice va5 ts5.length vc5)).heap.size := by have := k6.size; have := HK2.out.size; have := HL.out.kept.size; have := HBASE.out; omega
              have howlt : ∀ k, (Value.slice lo ps.length lc).ownBlock = some k → k < wc.heap.size := fun k hk => by
                have := (HL.out.own.own.lt k hk).2; have := HK2.out.size; have := K3'.out.size; omega
              have hbwc : base ≤ wc.heap.size := by have := K3'.out.size; have := HK2.out.size; have := HL.out.kept.size; have := HBASE.out; omega
              have H6 := Lib.hid h6
              have K6 := Lib.hid k6
              have V6 := Lib.hid v6
              have O6 := Lib.hid o6
              have how6 := o6.own
              clear h6 k6 v6 o6
              go_upto_region 15 with fail
              generalize hw6 : (w5.setCell ⟨nb, 1, none⟩ (.slice va5 ts5.length vc5)) = w6 at *
              have n0' : w6.cell? ⟨nb, 0, none⟩ = some (.int .i64 j) := by rw [← hw6]; exact cellIn (setIn N5.out 1 _) 0 rfl
              have n1' : w6.cell? ⟨nb, 1, none⟩ = some (.slice va5 ts5.length vc5) := by rw [← hw6]; exact cellIn (setIn N5.out 1 _) 1 rfl
              clear hw6 n0 n1 nf1
              go_wp2_with (at_builtin; refine wpList_append_lies _ rfl _ _ _ rfl base 75 i0 _ 2 32 Try.underlying59 hi0 hz0 hz1 hz2 rfl (by omega) _ ps.length _ (by rfl) (how6.alloc _) ⟨w6.heap.size, 0, none⟩ 1 1 (partCells ⟨j, ts5⟩ (.slice va5 ts5.length vc5)) (by rfl) (by rfl) (World.news_of_block (cs := (partCells ⟨j, ts5⟩ (.slice va5 ts5.length vc5)).toArray) (t := 75) (fr := (0, 0)) (heap_alloc_new w6 _)) (by simp [partCells, Value.oneCell']) (by omega) (by unfold maxLen; omega) (by omega) (by simp; omega) (w6.heap.size + 1) (by simp) ?_; intro gg cap w4 hown4 hgrow4 hat4 hlt4)
              go_roundg (s.length - at5 + 1)
              case measure => omega
              case rel =>
                refine ⟨ps ++ [⟨j, ts5⟩], vs ++ [.slice va5 ts5.length vc5], at5, ⟨own_rd H6.out hbb how6 hgrow4, ?_, by simpa using hfew6, own_grow ((HL.out.kept.trans HK2.out).trans K6.out) HBASE.out how6 hgrow4, hR.out⟩, rfl⟩
                refine O6.out.push part_lasts ?_ hown4 hgrow4 (by rcases hat4 with h | h; exact .inl h; exact .inr (by omega))
                exact V6.out.kept (S := fun _ => False) (Kept.refl _ _) (fun k _ hs => hs.elim) (fun k _ hx => by
                  rcases hx with hx | hx
                  · show k < wc.heap.size; omega
                  · exact howlt k hx)

end Go.Proofs.Ytplbdlgmjehckab
