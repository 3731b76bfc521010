/-
  The reader of sheets: declarations.
-/
import Derived.Test.YtplbdlgmjehckabShValue
namespace Go.Proofs.Ytplbdlgmjehckab
open Go.RowKit
set_option linter.unusedVariables false
set_option linter.unusedSimpArgs false

theorem sDeclsL_step {f : Nat} {ds : List PDecl} {l : B} {a : Nat} {r : Ans (List PDecl × B × Nat)} (h : sDeclsL (f + 1) ds l a = r) :
    (if (l.isEmpty || ([125] : B).isPrefixOf l) = true then .ok (ds, l, a) else if ds.length = 20 then .bad ⟨5, a⟩ else
    (sName l a).then fun x1 => (sGap x1.2.1 x1.2.2).then fun x2 => (pMust [58] x2.1 x2.2).then fun x3 => (sGap x3.1 x3.2).then fun x4 => (sVal x4.1 x4.2).then fun x5 => (sStrong x5.2.1 x5.2.2).then fun x6 =>
      if ([59] : B).isPrefixOf x6.2.1 then (sGap (x6.2.1.drop 1) (x6.2.2 + 1)).then fun y => sDeclsL f (ds ++ [⟨x1.1, x5.1, x6.1⟩]) y.1 y.2 else .ok (ds ++ [⟨x1.1, x5.1, x6.1⟩], x6.2.1, x6.2.2)) = r := by
  rw [← h, sDeclsL]
  split
  · rfl
  · split
    · rfl
    · unfold sDecl
      cases sName l a with
      | bad f => rfl
      | ok x1 =>
        simp only [Ans.ok_then]
        cases sGap x1.2.1 x1.2.2 with
        | bad f => rfl
        | ok x2 =>
          simp only [Ans.ok_then]
          cases pMust [58] x2.1 x2.2 with
          | bad f => rfl
          | ok x3 =>
            simp only [Ans.ok_then]
            cases sGap x3.1 x3.2 with
            | bad f => rfl
            | ok x4 =>
              simp only [Ans.ok_then]
              cases sVal x4.1 x4.2 with
              | bad f => rfl
              | ok x5 =>
                simp only [Ans.ok_then]
                cases sStrong x5.2.1 x5.2.2 <;> rfl

structure DLoop (w wr : World) (b : Nat) (s : B) (base : Nat) (r : Ans (List PDecl × B × Nat)) (l : Value) (ds : List PDecl) (at' : Nat) : Prop where
  rd : SdAt wr b s at'
  own : wr.ownsRow base 62 3 l ds.length (ds.map declCells).flatten
  few : ds.length ≤ 20
  kept : Kept (· = b) w wr
  rest : ∃ f, (s.drop at').length < f ∧ sDeclsL f ds (s.drop at') at' = r
/-- behind it -/
structure DDone (w wr : World) (b : Nat) (s : B) (base : Nat) (r : Ans (List PDecl × B × Nat)) (l : Value) (ds : List PDecl) (at' : Nat) : Prop where
  rd : SdAt wr b s at'
  own : wr.ownsRow base 62 3 l ds.length (ds.map declCells).flatten
  kept : Kept (· = b) w wr
  ok : r = .ok (ds, s.drop at', at')

theorem brace_no {l t : B} {c : UInt8} (h : l = c :: t) (hc : ¬ c = 125) : ¬ (l.isEmpty || ([125] : B).isPrefixOf l) = true := by
  rw [h, one_prefix]; simp [hc]
theorem drop_in {s : B} {a b : Nat} (h : a ≤ b) : (s.drop b).length ≤ (s.drop a).length := by simp; omega

set_option maxRecDepth 100000 in
set_option maxHeartbeats 6400000 in
theorem sdecls_sum (w : World) (b : Nat) (s : B) (at_ : Nat) (m : Int) (h : SdAt w b s at_) (hm : w.cell? ⟨0, 0, none⟩ = some (.int .i64 m)) (hb0 : 0 < b) :
    Calls Try.prog 27 #[.pointer (some ⟨b, 0, none⟩)] w (SSum (sDecls (s.drop at_) at_) w b s (fun w' ds e => ∃ v, e = .returned v ∧ DeclsIn w' (fun k => k < w.heap.size) v ds)) := by
  obtain ⟨r, HR⟩ : ∃ r, Hid (sDecls (s.drop at_) at_ = r) := ⟨_, rfl⟩
  rw [HR.out]
  have HM := Lib.hid hm
  obtain ⟨i0, hi0, hz0, hz1, hz2⟩ := info_parts info_decl
  obtain ⟨base, HBASE⟩ : ∃ base, Hid (w.heap.size = base) := ⟨_, rfl⟩
  have hbb : b < base := by have := h.lt; have := HBASE.out; omega
  have H := Lib.hid h
  have hl := h.2.1
  have hmx := h.2.2
  clear h hm
  rw [HBASE.out]
  go_enter Try.func27, Try.ntmps27
  go_wp2_with fail
  refine (sblank_sum _ _ _ _ m H.out HM.out hb0).mono ?_
  rintro e w1 (⟨g, rfl, hk1, hp1⟩ | ⟨at1, rfl, hk1, h1, hp1⟩)
  · have hR : Hid (r = .bad g) := Lib.hid (by rw [← HR.out]; unfold sDecls; rw [hp1.out]; rfl)
    have K1 := Lib.hid hk1
    clear hk1
    go_wp2_with fail
    exact ⟨rfl, .bad K1.out hR.out⟩
  · have HP0 : Hid (DLoop w w1 b s base r (.slice none 0 0) [] at1) := Lib.hid ⟨h1, World.ownsRow_nil _ _ _ _, by simp, hk1, _, Nat.lt_succ_self _, by rw [← HR.out]; unfold sDecls; rw [hp1.out]; rfl⟩
    have hl1 := h1.2.1
    clear hk1 h1 hp1 HR
    go_upto_block 0 with fail
    go_cut [3] (fun l wx => ∃ ds at', DDone w wx b s base r l ds at')
    case first =>
      go_wp2_with fail
      go_loopg [3] (s.length - at1) (fun k l wr => ∃ ds at', DLoop w wr b s base r l ds at' ∧ k = s.length - at')
      case atStart => exact ⟨[], at1, HP0.out, rfl⟩
      case round =>
        obtain ⟨ds, at', hL, hk⟩ := hrel
        have HL := Lib.hid hL
        have hfew := hL.few
        have hl' := hL.rd.2.1
        have c0 := hL.rd.c0
        have c1 := hL.rd.c1
        obtain ⟨lo, lc, rfl⟩ : ∃ vo vc, u3 = .slice vo ds.length vc := by
          rcases hL.own.2 with ⟨h, hn⟩ | ⟨g, cap, cur, h, _⟩
          · exact ⟨none, 0, by rw [h, hn]⟩
          · exact ⟨_, cap, h⟩
        obtain ⟨f0, hf0, hr0⟩ := hL.rest
        cases f0 with
        | zero => omega
        | succ f =>
        have hst := sDeclsL_step hr0
        have HF := Lib.hid hf0
        have HST := Lib.hid hst
        clear hL hr0 hf0 hst
        by_cases hlt : at' < s.length
        · have hd := List.drop_eq_getElem_cons hlt
          have HD := Lib.hid hd
          have e0 : decide ((at' : Int) < (s.length : Int)) = true := by simp; omega
          clear hd
          cases e1 : (((s[at']'hlt).toNat : Int) != 125) with
          | false =>
            have hR : Hid (r = .ok (ds, s.drop at', at')) := Lib.hid (by
              rw [← HST.out, if_pos]
              have : s[at']'hlt = 125 := UInt8.toNat_inj.1 (by simp at e1; have : (125 : UInt8).toNat = 125 := rfl; omega)
              rw [HD.out, this]; rfl)
            go_wp2_with fail
            go_quiet (fail)
            go_wp2_with fail
            go_meet
            case rel => exact ⟨ds, at', HL.out.rd.drewN _, owns_kept (S := fun _ => False) HL.out.own ((Kept.refl _ _).drewN _) (fun _ _ => id), HL.out.kept.drewN _, hR.out⟩
          | true =>
            have hne : ¬ s[at']'hlt = 125 := fun h => by rw [h] at e1; cases e1
            have hst := HST.out
            rw [if_neg (brace_no HD.out hne)] at hst
            have HST1 := Lib.hid hst
            clear hst hne
            go_wp2_with fail
            go_quiet (fail)
            obtain ⟨w2, HW2⟩ : ∃ w2, Hid (wr.drewN nq = w2) := ⟨_, rfl⟩
            have hq1 : Qt wr w2 := ⟨nq, HW2.out.symm⟩
            have H2 := Lib.hid (HL.out.rd.quiet hq1)
            have K2 := Lib.hid (HL.out.kept.trans (hq1.kept _))
            have HOW2 := Lib.hid (owns_kept HL.out.own (hq1.kept (fun _ => False)) (fun _ _ => id))
            clear hq1 c0 c1
            by_cases h20 : ds.length = 20
            · have e20 : ((ds.length : Int) == 20) = true := by simp; omega
              have hR : Hid (r = .bad ⟨5, at'⟩) := Lib.hid (by rw [← HST1.out, if_pos h20])
              clear h20
              go_wp2_with fail
              rw [HW2.out]
              refine (sfail_any 5 _ _ _ _ H2.out).mono ?_
              rintro e w9 ⟨rfl, hq9⟩
              go_wp2_with fail
              exact ⟨rfl, .bad (K2.out.trans (hq9.kept _)) hR.out⟩
            · have e20 : ((ds.length : Int) == 20) = false := by simp; omega
              have hst := HST1.out
              rw [if_neg h20] at hst
              have HE2 := Lib.hid hst
              have hfew20 : ds.length + 1 ≤ 20 := by omega
              clear hst h20
              go_wp2_with fail
              rw [HW2.out]
              refine (sname_sum _ _ _ _ H2.out).mono ?_
              rintro e w3 (⟨g, rfl, hk, hp⟩ | ⟨nm, at3, rfl, hk, h3, hp⟩)
              · have hR : Hid (r = .bad g) := Lib.hid (by rw [← HE2.out, hp.out]; rfl)
                have KB := Lib.hid (K2.out.trans hk)
                clear hk
                go_wp2_with fail
                exact ⟨rfl, .bad KB.out hR.out⟩
              · have HE3 : Hid (((sGap (s.drop at3) at3).then fun x2 => (pMust [58] x2.1 x2.2).then fun x3 => (sGap x3.1 x3.2).then fun x4 => (sVal x4.1 x4.2).then fun x5 => (sStrong x5.2.1 x5.2.2).then fun x6 =>
                    if ([59] : B).isPrefixOf x6.2.1 then (sGap (x6.2.1.drop 1) (x6.2.2 + 1)).then fun y => sDeclsL f (ds ++ [⟨nm, x5.1, x6.1⟩]) y.1 y.2 else .ok (ds ++ [⟨nm, x5.1, x6.1⟩], x6.2.1, x6.2.2)) = r) := Lib.hid (by rw [← HE2.out, hp.out]; rfl)
                have hlt3 : at' < at3 := by
                  obtain ⟨h1, h2, h3, _⟩ := name_pos hp.out
                  omega
                have K3 := Lib.hid (K2.out.trans hk)
                have H3 := Lib.hid h3
                have HKF := Lib.hid hk
                clear hk h3
                obtain ⟨nb, HNB⟩ : ∃ nb, Hid (w3.heap.size = nb) := ⟨_, rfl⟩
                obtain ⟨w4, HW4⟩ : ∃ x, Hid (w3.alloc (.cells #[.string (str nm), .string ⟨#[]⟩, .bool false] 62 (0, 0)) = x) := ⟨_, rfl⟩
                have H4 : Hid (SdAt w4 b s at3) := Lib.hid (by rw [← HW4.out]; exact H3.out.alloc _)
                have K4 : Hid (Kept (· = b) w w4) := Lib.hid (by rw [← HW4.out]; exact K3.out.alloc _)
                have J4 : Hid (Kept (· = b) w3 w4) := Lib.hid (by rw [← HW4.out]; exact (Kept.refl _ _).alloc _)
                have N4 : Hid (w4.heap[nb]? = some (.cells #[.string (str nm), .string ⟨#[]⟩, .bool false] 62 (0, 0))) := Lib.hid (by rw [← HW4.out, ← HNB.out]; exact newIn _ _)
                have hnb : ¬ nb = b := by have := H3.out.lt; have := HNB.out; omega
                have hnbb : b ≠ nb := fun hh => hnb hh.symm
                have hnb2 : w3.heap.size ≤ nb := by have := HNB.out; omega
                have HM4 := Lib.hid (K4.out.cell (by show ¬ (0 = b); omega) HM.out)
                go_wp2_with fail
                rw [HW4.out, HNB.out]
                clear HW4
                have HE4 := HE3
                refine (sblank_sum _ _ _ _ m H4.out HM4.out hb0).mono ?_
                rintro e w5 (⟨g, rfl, hk, hp⟩ | ⟨at5, rfl, hk, h5, hp⟩)
                · have hR : Hid (r = .bad g) := Lib.hid (by rw [← HE4.out, hp.out]; rfl)
                  have KB := Lib.hid (K4.out.trans hk)
                  clear hk
                  go_wp2_with fail
                  exact ⟨rfl, .bad KB.out hR.out⟩
                · have HE5 : Hid (((pMust [58] (s.drop at5) at5).then fun x3 => (sGap x3.1 x3.2).then fun x4 => (sVal x4.1 x4.2).then (fun x5 : B × B × Nat => (sStrong x5.2.1 x5.2.2).then fun x6 => if ([59] : B).isPrefixOf x6.2.1 then (sGap (x6.2.1.drop 1) (x6.2.2 + 1)).then fun y => sDeclsL f (ds ++ [⟨nm, x5.1, x6.1⟩]) y.1 y.2 else .ok (ds ++ [⟨nm, x5.1, x6.1⟩], x6.2.1, x6.2.2))) = r) := Lib.hid (by rw [← HE4.out, hp.out]; rfl)
                  have hl5 := h5.2.1
                  have hle5 : at3 ≤ at5 := by obtain ⟨_, _, h1, h2, _⟩ := gap_loc hp.out; omega
                  have K5 := Lib.hid (K4.out.trans hk)
                  have J5 := Lib.hid (J4.out.trans hk)
                  have H5 := Lib.hid h5
                  have N5 := Lib.hid (hk.heap hnb N4.out)
                  have HM5 := Lib.hid (K5.out.cell (by show ¬ (0 = b); omega) HM.out)
                  clear hk h5
                  go_wp2_with fail
                  refine (smust_sum [58] _ _ _ _ H5.out).mono ?_
                  rintro e w6 (⟨g, rfl, hk, hp⟩ | ⟨at6, rfl, hk, h6, hp⟩)
                  · have hR : Hid (r = .bad g) := Lib.hid (by rw [← HE5.out, hp.out]; rfl)
                    have KB := Lib.hid (K5.out.trans hk)
                    clear hk
                    go_wp2_with fail
                    exact ⟨rfl, .bad KB.out hR.out⟩
                  · have HE6 : Hid (((sGap (s.drop at6) at6).then fun x4 => (sVal x4.1 x4.2).then (fun x5 : B × B × Nat => (sStrong x5.2.1 x5.2.2).then fun x6 => if ([59] : B).isPrefixOf x6.2.1 then (sGap (x6.2.1.drop 1) (x6.2.2 + 1)).then fun y => sDeclsL f (ds ++ [⟨nm, x5.1, x6.1⟩]) y.1 y.2 else .ok (ds ++ [⟨nm, x5.1, x6.1⟩], x6.2.1, x6.2.2))) = r) := Lib.hid (by rw [← HE5.out, hp.out]; rfl)
                    have hl6 := h6.2.1
                    have hle6 : at5 ≤ at6 := by have := (must_loc hp.out).2.1; omega
                    have K6 := Lib.hid (K5.out.trans hk)
                    have J6 := Lib.hid (J5.out.trans hk)
                    have H6 := Lib.hid h6
                    have N6 := Lib.hid (hk.heap hnb N5.out)
                    have HM6 := Lib.hid (K6.out.cell (by show ¬ (0 = b); omega) HM.out)
                    clear hk h6
                    go_wp2_with fail
                    refine (sblank_sum _ _ _ _ m H6.out HM6.out hb0).mono ?_
                    rintro e w7 (⟨g, rfl, hk, hp⟩ | ⟨at7, rfl, hk, h7, hp⟩)
                    · have hR : Hid (r = .bad g) := Lib.hid (by rw [← HE6.out, hp.out]; rfl)
                      have KB := Lib.hid (K6.out.trans hk)
                      clear hk
                      go_wp2_with fail
                      exact ⟨rfl, .bad KB.out hR.out⟩
                    · have HE7 : Hid (((sVal (s.drop at7) at7).then (fun x5 : B × B × Nat => (sStrong x5.2.1 x5.2.2).then fun x6 => if ([59] : B).isPrefixOf x6.2.1 then (sGap (x6.2.1.drop 1) (x6.2.2 + 1)).then fun y => sDeclsL f (ds ++ [⟨nm, x5.1, x6.1⟩]) y.1 y.2 else .ok (ds ++ [⟨nm, x5.1, x6.1⟩], x6.2.1, x6.2.2))) = r) := Lib.hid (by rw [← HE6.out, hp.out]; rfl)
                      have hl7 := h7.2.1
                      have hle7 : at6 ≤ at7 := by obtain ⟨_, _, h1, h2, _⟩ := gap_loc hp.out; omega
                      have K7 := Lib.hid (K6.out.trans hk)
                      have J7 := Lib.hid (J6.out.trans hk)
                      have H7 := Lib.hid h7
                      have N7 := Lib.hid (hk.heap hnb N6.out)
                      have HM7 := Lib.hid (K7.out.cell (by show ¬ (0 = b); omega) HM.out)
                      clear hk h7
                      go_wp2_with fail
                      refine (sval_sum _ _ _ _ m H7.out HM7.out hb0).mono ?_
                      rintro e w8 (⟨g, rfl, hk, hp⟩ | ⟨v, at8, rfl, hk, h8, hp⟩)
                      · have hR : Hid (r = .bad g) := Lib.hid (by rw [← HE7.out, hp.out]; rfl)
                        have KB := Lib.hid (K7.out.trans hk)
                        clear hk
                        go_wp2_with fail
                        exact ⟨rfl, .bad KB.out hR.out⟩
                      · have HE8 : Hid (((sStrong (s.drop at8) at8).then (fun x6 : Bool × B × Nat => if ([59] : B).isPrefixOf x6.2.1 then (sGap (x6.2.1.drop 1) (x6.2.2 + 1)).then fun y => sDeclsL f (ds ++ [⟨nm, v, x6.1⟩]) y.1 y.2 else .ok (ds ++ [⟨nm, v, x6.1⟩], x6.2.1, x6.2.2))) = r) := Lib.hid (by rw [← HE7.out, hp.out]; rfl)
                        have hl8 := h8.2.1
                        have hle8 : at7 ≤ at8 := by obtain ⟨_, h1, h2, _⟩ := val_loc _ _ _ _ _ hp.out; omega
                        have K8 := Lib.hid (K7.out.trans hk)
                        have J8 := Lib.hid (J7.out.trans hk)
                        have H8 := Lib.hid h8
                        have hn8 := hk.heap hnb N7.out
                        have n1 := cellIn hn8 1 rfl
                        have nf1 := freeIn hn8 1
                        have N8 := Lib.hid hn8
                        clear hk h8 hn8
                        go_upto_region 11 with fail
                        have H9 := Lib.hid (H8.out.other (p := ⟨nb, 1, none⟩) (x := .string (str v)) hnbb)
                        have K9 := Lib.hid (K8.out.setCell (p := ⟨nb, 1, none⟩) (.inr (by show w.heap.size ≤ nb; have := K3.out.size; omega)) (.string (str v)))
                        have J9 := Lib.hid (J8.out.setCell (p := ⟨nb, 1, none⟩) (.inr hnb2) (.string (str v)))
                        have hn9 : (w8.setCell ⟨nb, 1, none⟩ (.string (str v))).heap[nb]? = some (.cells #[.string (str nm), .string (str v), .bool false] 62 (0, 0)) := by
                          have := setIn N8.out 1 (.string (str v))
                          simpa using this
                        have N9 := Lib.hid hn9
                        clear n1 nf1 hn9
                        generalize (w8.setCell ⟨nb, 1, none⟩ (.string (str v))) = w9 at *
                        have HM9 := Lib.hid (K9.out.cell (by show ¬ (0 = b); omega) HM.out)
                        obtain ⟨q9, HQ9⟩ : ∃ q, Hid (([33] : B).isPrefixOf (s.drop at8) = q) := ⟨_, rfl⟩
                        go_wp2_with fail
                        refine (seat_is q9 [33] _ _ _ _ H9.out HQ9.out).mono ?_
                        rintro e w10 ⟨rfl, hk10, h10⟩
                        have H10 := Lib.hid h10
                        have J10 := Lib.hid (J9.out.trans hk10)
                        have N10 := Lib.hid (hk10.heap hnb N9.out)
                        clear hk10 h10
                        go_upto_if 47 with fail
                        go_cut [] (fun wx => ∃ (st : Bool) (at6 : Nat), SdAt wx b s at6 ∧ Kept (· = b) w3 wx ∧ wx.heap[nb]? = some (.cells #[.string (str nm), .string (str v), .bool st] 62 (0, 0)) ∧ Hid (sStrong (s.drop at8) at8 = .ok (st, s.drop at6, at6)))
                        case first =>
                          cases q9 with
                          | false =>
                            have HS : Hid (sStrong (s.drop at8) at8 = .ok (false, s.drop at8, at8)) := Lib.hid (by unfold sStrong; rw [HQ9.out, if_neg (by simp)])
                            go_wp2_with fail
                            go_meet
                            case rel => exact ⟨false, at8, H10.out, J10.out, N10.out, HS⟩
                          | true =>
                            have H10' : Hid (SdAt w10 b s (at8 + 1)) := Lib.hid H10.out
                            have HSS : Hid (((pMust importantWord (s.drop (at8 + 1)) (at8 + 1)).then fun x => (sGap x.1 x.2).then fun y => Ans.ok (true, y.1, y.2)) = sStrong (s.drop at8) at8) := Lib.hid (by unfold sStrong; rw [if_pos HQ9.out, List.drop_drop])
                            go_wp2_with fail
                            refine (smust_sum importantWord _ _ _ _ H10'.out).mono ?_
                            rintro e w11 (⟨g, rfl, hk, hp⟩ | ⟨at11, rfl, hk, h11, hp⟩)
                            · have hR : Hid (r = .bad g) := Lib.hid (by rw [← HE8.out, ← HSS.out, hp.out]; rfl)
                              have KB := Lib.hid ((K3.out.trans J10.out).trans hk)
                              clear hk
                              go_wp2_with fail
                              exact ⟨rfl, .bad KB.out hR.out⟩
                            · have HSS2 : Hid (((sGap (s.drop at11) at11).then fun y => Ans.ok (true, y.1, y.2)) = sStrong (s.drop at8) at8) := Lib.hid (by rw [← HSS.out, hp.out]; rfl)
                              have J11 := Lib.hid (J10.out.trans hk)
                              have H11 := Lib.hid h11
                              have hn11 := hk.heap hnb N10.out
                              have n2 := cellIn hn11 2 rfl
                              have nf2 := freeIn hn11 2
                              have N11 := Lib.hid hn11
                              clear hk h11 hn11
                              go_upto_region 14 with fail
                              have H12 := Lib.hid (H11.out.other (p := ⟨nb, 2, none⟩) (x := .bool true) hnbb)
                              have J12 := Lib.hid (J11.out.setCell (p := ⟨nb, 2, none⟩) (.inr hnb2) (.bool true))
                              have hn12 : (w11.setCell ⟨nb, 2, none⟩ (.bool true)).heap[nb]? = some (.cells #[.string (str nm), .string (str v), .bool true] 62 (0, 0)) := by
                                have := setIn N11.out 2 (.bool true)
                                simpa using this
                              have N12 := Lib.hid hn12
                              clear n2 nf2 hn12
                              generalize (w11.setCell ⟨nb, 2, none⟩ (.bool true)) = w12 at *
                              have HM12 := Lib.hid ((K3.out.trans J12.out).cell (by show ¬ (0 = b); omega) HM.out)
                              go_wp2_with fail
                              refine (sblank_sum _ _ _ _ m H12.out HM12.out hb0).mono ?_
                              rintro e w13 (⟨g, rfl, hk, hp⟩ | ⟨at13, rfl, hk, h13, hp⟩)
                              · have hR : Hid (r = .bad g) := Lib.hid (by rw [← HE8.out, ← HSS2.out, hp.out]; rfl)
                                have KB := Lib.hid ((K3.out.trans J12.out).trans hk)
                                clear hk
                                go_wp2_with fail
                                exact ⟨rfl, .bad KB.out hR.out⟩
                              · have HS : Hid (sStrong (s.drop at8) at8 = .ok (true, s.drop at13, at13)) := Lib.hid (by rw [← HSS2.out, hp.out]; rfl)
                                have J13 := Lib.hid (J12.out.trans hk)
                                have H13 := Lib.hid h13
                                have N13 := Lib.hid (hk.heap hnb N12.out)
                                clear hk h13
                                go_wp2_with fail
                                go_meet
                                case rel => exact ⟨true, at13, H13.out, J13.out, N13.out, HS⟩
                        case rest =>
                          obtain ⟨st, at14, h14, j14, hn14, HS⟩ := hcut
                          have hle14 : at8 ≤ at14 := by obtain ⟨_, h1, h2, _⟩ := strong_loc _ _ _ _ _ HS.out; omega
                          have hl14 := h14.2.1
                          have HE14 : Hid ((if ([59] : B).isPrefixOf (s.drop at14) then (sGap (s.drop (at14 + 1)) (at14 + 1)).then fun y => sDeclsL f (ds ++ [⟨nm, v, st⟩]) y.1 y.2 else .ok (ds ++ [⟨nm, v, st⟩], s.drop at14, at14)) = r) := Lib.hid (by
                            rw [← HE8.out, HS.out, Ans.ok_then]; simp only [List.drop_drop])
                          have n0 := cellIn hn14 0 rfl
                          have n1 := cellIn hn14 1 rfl
                          have n2 := cellIn hn14 2 rfl
                          have K14 := Lib.hid (K3.out.trans j14)
                          have how14 := owns_kept HOW2.out (HKF.out.trans j14) (fun k hk => by have := (HOW2.out.lt k hk).1; omega)
                          have hsz14 : base ≤ wc.heap.size := by have := K14.out.size; have := HBASE.out; omega
                          have H14 := Lib.hid h14
                          clear h14 j14 hn14
                          go_wp2_with (at_builtin; refine wpList_append_lies _ rfl _ _ _ rfl base 62 i0 _ 3 40 Try.underlying22 hi0 hz0 hz1 hz2 rfl (by omega) _ ds.length _ (by rfl) (how14.alloc _) ⟨wc.heap.size, 0, none⟩ 1 1 (declCells ⟨nm, v, st⟩) (by rfl) (by rfl) (World.news_of_block (cs := (declCells ⟨nm, v, st⟩).toArray) (t := 62) (fr := (0, 0)) (heap_alloc_new wc _)) (by simp [declCells, Value.oneCell']) (by omega) (by unfold maxLen; omega) (by omega) (by simp; omega) (wc.heap.size + 1) (by simp) ?_; intro gg cap w15 hown15 hgrow15 hat15 hlt15)
                          have H15 := Lib.hid (own_rd H14.out hbb how14 hgrow15)
                          have K15 := Lib.hid (own_grow K14.out HBASE.out how14 hgrow15)
                          have HOW15 : Hid (w15.ownsRow base 62 3 (.slice (some ⟨gg, 0, none⟩) (ds.length + 1) cap) (ds ++ [(⟨nm, v, st⟩ : PDecl)]).length ((ds ++ [(⟨nm, v, st⟩ : PDecl)]).map declCells).flatten) := Lib.hid (by simpa [declCells] using hown15)
                          clear n0 n1 n2 how14 hown15
                          cases p59 : ([59] : B).isPrefixOf (s.drop at14) with
                          | false =>
                            have hR : Hid (r = .ok (ds ++ [⟨nm, v, st⟩], s.drop at14, at14)) := Lib.hid (by rw [← HE14.out, p59, if_neg (by simp)])
                            refine (seat_is false [59] _ _ _ _ H15.out p59).mono ?_
                            rintro e w16 ⟨rfl, hk16, h16⟩
                            have h16' : SdAt w16 b s at14 := h16
                            have HOW16 := Lib.hid (owns_kept HOW15.out hk16 (fun k hk => by have := (HOW15.out.lt k hk).1; omega))
                            have K16 := Lib.hid (K15.out.trans hk16)
                            have H16 := Lib.hid h16'
                            clear hk16 h16 h16' p59
                            go_wp2_with fail
                            go_meet
                            case rel => exact ⟨ds ++ [⟨nm, v, st⟩], at14, H16.out, HOW16.out, K16.out, hR.out⟩
                          | true =>
                            have HE16 : Hid (((sGap (s.drop (at14 + 1)) (at14 + 1)).then fun y => sDeclsL f (ds ++ [⟨nm, v, st⟩]) y.1 y.2) = r) := Lib.hid (by rw [← HE14.out, if_pos p59])
                            refine (seat_is true [59] _ _ _ _ H15.out p59).mono ?_
                            rintro e w16 ⟨rfl, hk16, h16⟩
                            have h16' : SdAt w16 b s (at14 + 1) := h16
                            have HOW16 := Lib.hid (owns_kept HOW15.out hk16 (fun k hk => by have := (HOW15.out.lt k hk).1; omega))
                            have K16 := Lib.hid (K15.out.trans hk16)
                            have H16 := Lib.hid h16'
                            have HM16 := Lib.hid (K16.out.cell (by show ¬ (0 = b); omega) HM.out)
                            clear hk16 h16 h16' p59
                            go_wp2_with fail
                            refine (sblank_sum _ _ _ _ m H16.out HM16.out hb0).mono ?_
                            rintro e w17 (⟨g, rfl, hk, hp⟩ | ⟨at17, rfl, hk, h17, hp⟩)
                            · have hR : Hid (r = .bad g) := Lib.hid (by rw [← HE16.out, hp.out]; rfl)
                              have KB := Lib.hid (K16.out.trans hk)
                              clear hk
                              go_wp2_with fail
                              exact ⟨rfl, .bad KB.out hR.out⟩
                            · have hl17 := h17.2.1
                              have hle17 : at14 + 1 ≤ at17 := by obtain ⟨_, _, h1, h2, _⟩ := gap_loc hp.out; omega
                              have hR : Hid (∃ f, (s.drop at17).length < f ∧ sDeclsL f (ds ++ [⟨nm, v, st⟩]) (s.drop at17) at17 = r) := Lib.hid (by
                                have h1 := HE16.out
                                rw [hp.out, Ans.ok_then] at h1
                                have := HF.out
                                exact ⟨f, by rw [List.length_drop] at this ⊢; omega, h1⟩)
                              have K17 := Lib.hid (K16.out.trans hk)
                              have H17 := Lib.hid h17
                              have HOW17 := Lib.hid (owns_kept HOW16.out hk (fun k hk => by have := (HOW16.out.lt k hk).1; omega))
                              clear hk h17
                              go_wp2_with fail
                              go_roundg (s.length - at17)
                              case measure => omega
                              case rel => exact ⟨ds ++ [⟨nm, v, st⟩], at17, ⟨H17.out, HOW17.out, by simpa using hfew20, K17.out, hR.out⟩, rfl⟩
        · have e0 : decide ((at' : Int) < (s.length : Int)) = false := by simp; omega
          have hR : Hid (r = .ok (ds, s.drop at', at')) := Lib.hid (by
            rw [← HST.out, if_pos]
            rw [List.drop_eq_nil_of_le (by omega)]; rfl)
          go_wp2_with fail
          go_quiet (fail)
          go_wp2_with fail
          go_meet
          case rel => exact ⟨ds, at', HL.out.rd.drewN _, owns_kept (S := fun _ => False) HL.out.own ((Kept.refl _ _).drewN _) (fun _ _ => id), HL.out.kept.drewN _, hR.out⟩
    case rest =>
      obtain ⟨ds, at', hD⟩ := hcut
      have HD := Lib.hid hD
      clear hD
      go_wp2_with fail
      go_ret
      refine .inr ⟨ds, at', ⟨_, rfl, rowsAt_of_owns decl_rows (by simp) HD.out.own, fun k hk => ⟨?_, (HD.out.own.lt k hk).2⟩⟩, HD.out.kept, HD.out.rd, Lib.hid HD.out.ok⟩
      have := (HD.out.own.lt k hk).1
      omega

end Go.Proofs.Ytplbdlgmjehckab
