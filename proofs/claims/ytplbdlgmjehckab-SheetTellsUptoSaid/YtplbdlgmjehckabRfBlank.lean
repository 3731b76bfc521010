/-
  The document's answer: gaps, and which bytes stand in words.
-/
import Derived.Test.YtplbdlgmjehckabRfStep
import Derived.Test.YtplbdlgmjehckabShWalk
import Derived.Deep.DeepCutAuto
import Derived.Deep.CutBlock
import Derived.Deep.LoopGhost
namespace Go.Proofs.Ytplbdlgmjehckab
open Go.RowKit
set_option linter.unusedVariables false
set_option linter.unusedSimpArgs false

set_option maxRecDepth 100000 in
set_option maxHeartbeats 3200000 in
theorem rblank_gen (w : World) (b : Nat) (s : B) (a : Nat) (f : Flt) (v : Value) (h : WkAt w b s a f v) (hg : f.err = 0 → f = good) :
    Calls Try.prog 36 #[.pointer (some ⟨b, 0, none⟩)] w fun e w' => ∃ f' a', e = .returned (.bool (decide (a < a'))) ∧ Kept (· = b) w w' ∧ WkAt w' b s a' f' v ∧ (f'.err = 0 → f' = good) ∧ Hid (Step f (sGap (s.drop a) a) f' (s.drop a', a')) := by
  obtain ⟨r, HR⟩ : ∃ r, Hid (sGap (s.drop a) a = r) := ⟨_, rfl⟩
  rw [HR.out]
  have H := Lib.hid h
  have c1 := h.c1
  have hl := h.2.1
  have hmx := h.2.2
  clear h
  by_cases hf : f.err = 0
  · obtain rfl := hg hf
    clear hg
    go_enter Try.func36, Try.ntmps36
    go_upto_block 0 with fail
    clear c1
    go_cut [] (fun wx => ∃ f' a', WkAt wx b s a' f' v ∧ Hid (Kept (· = b) w wx) ∧ (f'.err = 0 → f' = good) ∧ Hid (Step good r f' (s.drop a', a')))
    case first =>
      go_wp2_with fail
      go_loopg [] (s.length - a) (fun k wr => ∃ p, WkAt wr b s p good v ∧ Hid (Kept (· = b) w wr) ∧ Hid (sGap (s.drop p) p = r) ∧ k = s.length - p)
      case atStart => exact ⟨a, H.out, Lib.hid (Kept.refl _ _), HR, rfl⟩
      case round =>
        obtain ⟨p, hsd, HK, HG, hk⟩ := hrel
        have HS := Lib.hid hsd
        have c0 := hsd.c0
        have c1 := hsd.c1
        have f1 := hsd.free 1
        have hl' := hsd.2.1
        clear hsd
        by_cases hlt : p < s.length
        · have hd := List.drop_eq_getElem_cons hlt
          have hG := HG.out
          rw [hd, gap_cons, ← hd] at hG
          have HD := Lib.hid hd
          clear hd
          have hi0 : (0 : Int) ≤ (p : Int) := by omega
          have hi1 : (p : Int) < (s.length : Int) := by omega
          cases e1 : (((s[p]'hlt).toNat : Int) == 32) with
          | true =>
            rw [if_pos (.inl (by simp at e1; omega))] at hG
            have HGN := Lib.hid hG
            clear hG
            have e2 : ∀ x : Bool, ((((s[p]'hlt).toNat : Int) == 32) || x) = true := fun x => by rw [e1]; rfl
            go_wp2_with fail
            go_quiet ((go_at_call 23; exact Calls.quiet_of_same (ok_is true _ _ _ _ _ _ HS.out rfl)))
            go_wp2_with fail
            go_quiet (fail)
            go_wp2_with fail
            go_roundg (s.length - (p + 1))
            case measure => omega
            case rel => exact ⟨p + 1, ((HS.out.drewN _).set (by omega) (by omega)), Lib.hid ((HK.out.drewN _).setCell (p := ⟨b, 1, none⟩) (.inl rfl) _), HGN, rfl⟩
          | false =>
            cases e2 : (((s[p]'hlt).toNat : Int) == 10) with
            | true =>
              rw [if_pos (.inr (by simp at e2; omega))] at hG
              have HGN := Lib.hid hG
              clear hG
              go_wp2_with fail
              go_quiet ((go_at_call 23; exact Calls.quiet_of_same (ok_is true _ _ _ _ _ _ HS.out rfl)))
              go_wp2_with fail
              go_quiet (fail)
              go_wp2_with fail
              go_roundg (s.length - (p + 1))
              case measure => omega
              case rel => exact ⟨p + 1, ((HS.out.drewN _).set (by omega) (by omega)), Lib.hid ((HK.out.drewN _).setCell (p := ⟨b, 1, none⟩) (.inl rfl) _), HGN, rfl⟩
            | false =>
              rw [if_neg (by simp at e1 e2; omega)] at hG
              have HGN := Lib.hid hG
              clear hG
              go_wp2_with fail
              go_quiet ((go_at_call 23; exact Calls.quiet_of_same (ok_is true _ _ _ _ _ _ HS.out rfl)))
              go_wp2_with fail
              go_quiet (fail)
              go_wp2_with fail
              cases hp : gapBegin.isPrefixOf (s.drop p) with
              | false =>
                refine (on_good gapBegin false _ _ _ _ _ _ (HS.out.drewN _) rfl (by decide) hp).mono ?_
                rintro e w1 ⟨rfl, hw1⟩
                have hq1 : Qt wr w1 := Qt.trans ⟨_, rfl⟩ hw1
                have HQ1 := Lib.hid hq1
                clear hw1 hq1
                have hR : Hid (r = .ok (s.drop p, p)) := Lib.hid (by have := HGN.out; rw [hp] at this; exact this.symm)
                clear hp
                go_wp2_with fail
                go_meet
                case rel => exact ⟨good, p, HS.out.quiet HQ1.out, Lib.hid (HK.out.trans (HQ1.out.kept _)), fun _ => rfl, Lib.hid (Step.ok hR.out)⟩
              | true =>
                have hp2 : p + 2 ≤ s.length := by
                  have := (List.isPrefixOf_iff_prefix.1 hp).length_le
                  rw [List.length_drop] at this
                  simp only [gapBegin, List.length_cons, List.length_nil] at this
                  omega
                have hG := HGN.out
                rw [hp, if_pos rfl, List.drop_drop] at hG
                have HGM := Lib.hid hG
                refine (on_good gapBegin true _ _ _ _ _ _ (HS.out.drewN _) rfl (by decide) hp).mono ?_
                rintro e w1 ⟨rfl, hw1⟩
                have hq1 : Qt wr w1 := Qt.trans ⟨_, rfl⟩ hw1
                have HS1 := Lib.hid (HS.out.quiet hq1)
                have HK1 := Lib.hid (HK.out.trans (hq1.kept _))
                clear c0 c1 f1 hw1 hG hp hq1
                have c0 := HS1.out.c0
                have c1 := HS1.out.c1
                have f1 := HS1.out.free 1
                have h4 : WkAt (w1.setCell ⟨b, 1, none⟩ (.int .i64 ((p : Int) + 2))) b s (p + 2) good v := HS1.out.set (by omega) (by omega)
                have H4 := Lib.hid h4
                obtain ⟨w4, HW4⟩ : ∃ x, Hid (w1.setCell ⟨b, 1, none⟩ (.int .i64 ((p : Int) + 2)) = x) := ⟨_, rfl⟩
                have HK4 : Hid (Kept (· = b) w w4) := Lib.hid (by rw [← HW4.out]; exact HK1.out.setCell (p := ⟨b, 1, none⟩) (.inl rfl) _)
                have H5 : Hid (WkAt w4 b s (p + 2) good v) := Lib.hid (by rw [← HW4.out]; exact H4.out)
                clear h4 H4
                go_upto_region 8 with fail
                rw [HW4.out]
                clear HW4 HS1 HK1 c0 c1 f1
                have f1 := H5.out.free 1
                have c1 := H5.out.c1
                cases hf : findSub gapEnd (s.drop (p + 2)) with
                | none =>
                  have HF : Hid (absFind s gapEnd (p + 2) = none) := Lib.hid (by unfold absFind; rw [hf]; rfl)
                  have hR : Hid (r = .bad ⟨2, p⟩) := Lib.hid (by have := HGM.out; rw [hf] at this; exact this.symm)
                  clear hf
                  have h6 : WkAt (w4.setCell ⟨b, 1, none⟩ (.int .i64 (p : Int))) b s p good v := H5.out.set rfl (by omega)
                  have H6 := Lib.hid h6
                  clear h6
                  go_wp2_with (go_at_call 51; refine (find_any gapEnd none _ b s (p + 2) good v H5.out (by decide) (by decide) HF.out).mono ?_; rintro e2 w5 ⟨rfl, rfl⟩)
                  refine (stop_good 2 p _ b s p good v H6.out rfl).mono ?_
                  rintro e w9 ⟨rfl, hk9, h9⟩
                  have HK9 := Lib.hid ((HK4.out.setCell (p := ⟨b, 1, none⟩) (.inl rfl) _).trans hk9)
                  have H9 := Lib.hid h9
                  clear hk9 h9
                  go_wp2_with fail
                  go_meet
                  case rel => exact ⟨⟨2, p⟩, p, H9.out, HK9, fun hh => absurd hh (by simp), Lib.hid (Step.bad hR.out (by simp))⟩
                | some e =>
                  have hfl := findSub_le _ _ _ hf
                  rw [List.length_drop] at hfl
                  have hsl : gapEnd.length = 2 := rfl
                  rw [hsl] at hfl
                  have HF : Hid (absFind s gapEnd (p + 2) = some (p + 2 + e)) := Lib.hid (by unfold absFind; rw [hf]; rfl)
                  have hGN : Hid (sGap (s.drop (p + (2 + e + 2))) (p + (2 + e + 2)) = r) := Lib.hid (by have := HGM.out; rw [hf] at this; simpa [List.drop_drop] using this)
                  clear hf
                  go_wp2_with (go_at_call 51; refine (find_some gapEnd (p + 2 + e) _ b s (p + 2) good v H5.out (by decide) (by decide) HF.out).mono ?_; rintro e2 w5 ⟨rfl, rfl⟩)
                  go_roundg (s.length - (p + (2 + e + 2)))
                  case measure => omega
                  case rel => exact ⟨p + (2 + e + 2), (H5.out.set (a' := p) rfl (by omega)).set (by omega) (by omega), Lib.hid ((HK4.out.setCell (p := ⟨b, 1, none⟩) (.inl rfl) _).setCell (p := ⟨b, 1, none⟩) (.inl rfl) _), hGN, rfl⟩
        · have hd : decide ((p : Int) < (s.length : Int)) = false := by simp; omega
          have hR : Hid (r = .ok (s.drop p, p)) := Lib.hid (by have := HG.out; rw [List.drop_of_length_le (show s.length ≤ p by omega)] at this ⊢; exact this.symm)
          go_wp2_with fail
          go_quiet ((go_at_call 23; exact Calls.quiet_of_same (ok_is true _ _ _ _ _ _ HS.out rfl)))
          go_wp2_with fail
          go_meet
          case rel => exact ⟨good, p, HS.out.drewN _, Lib.hid (HK.out.drewN _), fun _ => rfl, Lib.hid (Step.ok hR.out)⟩
    case rest =>
      obtain ⟨f', a', hw', HK, hg', HS⟩ := hcut
      have hgt : decide ((a : Int) < (a' : Int)) = decide (a < a') := by rw [Bool.eq_iff_iff]; simp
      have HW := Lib.hid hw'
      have c1 := hw'.c1
      clear hw'
      go_wp2_with fail
      go_ret
      exact ⟨f', a', rfl, HK.out, HW.out, hg', HS⟩
  · have hf' : ((f.err : Int) == 0) = false := by simp; omega
    have hgt : decide (a < a) = false := by simp
    go_enter Try.func36, Try.ntmps36
    go_wp2_with fail
    go_loopg [] 0 (fun k wr => k = 0 ∧ Hid (WkAt wr b s a f v) ∧ Hid (Kept (· = b) w wr))
    case atStart => exact ⟨rfl, H, Lib.hid (Kept.refl _ _)⟩
    case round =>
      obtain ⟨rfl, HS, HK⟩ := hrel
      have c0 := HS.out.c0
      have c1' := HS.out.c1
      clear c1
      go_wp2_with fail
      go_quiet ((go_at_call 23; exact Calls.quiet_of_same (ok_is false _ _ _ _ _ _ HS.out hf')))
      go_wp2_with fail
      go_ret
      exact ⟨f, a, by rw [hgt]; rfl, HK.out.drewN _, HS.out.drewN _, hg, Lib.hid (Step.dead hf)⟩

theorem rword_num (c : UInt8) : isWord c = (isLow c || (decide (48 ≤ (c.toNat : Int)) && decide ((c.toNat : Int) ≤ 57)) || ((c.toNat : Int) == 35) || ((c.toNat : Int) == 46) || ((c.toNat : Int) == 37) || ((c.toNat : Int) == 45)) := by
  have e : ∀ n : Nat, decide (c.toNat = n) = ((c.toNat : Int) == (n : Int)) := fun n => by
    rw [Bool.eq_iff_iff, decide_eq_true_iff, beq_iff_eq]; omega
  have e2 : decide (48 ≤ c.toNat) = decide (48 ≤ (c.toNat : Int)) := by rw [Bool.eq_iff_iff]; simp; omega
  have e3 : decide (c.toNat ≤ 57) = decide ((c.toNat : Int) ≤ 57) := by rw [Bool.eq_iff_iff]; simp; omega
  unfold isWord
  rw [e 35, e 46, e 37, e 45, e2, e3]
  rfl
set_option maxRecDepth 100000 in
set_option maxHeartbeats 1600000 in
theorem rword_is (c : UInt8) (x : Bool) (w : World) (hx : isWord c = x) : Calls Try.prog 43 #[.int .u8 (c.toNat : Int)] w fun e w' => e = .returned (.bool x) ∧ w' = w := by
  rw [rword_num] at hx
  cases hlow : isLow c with
  | true =>
    have HX : Hid (x = true) := Lib.hid (by rw [← hx, hlow]; simp)
    have HLW := Lib.hid (low_is c true w hlow)
    clear hx
    go_enter Try.func43, Try.ntmps43
    go_wp2_with (go_at_call 53; refine HLW.out.mono ?_; rintro e w2 ⟨rfl, rfl⟩)
    go_ret
    exact ⟨retb HX.out.symm, rfl⟩
  | false =>
    have HLW := Lib.hid (low_is c false w hlow)
    rw [hlow] at hx
    have HX := Lib.hid hx
    clear hx
    go_enter Try.func43, Try.ntmps43
    by_cases h1 : 48 ≤ (c.toNat : Int)
    · by_cases h2 : (c.toNat : Int) ≤ 57
      · go_wp2_with (go_at_call 53; refine HLW.out.mono ?_; rintro e w2 ⟨rfl, rfl⟩)
        go_ret
        exact ⟨retb (by rw [← HX.out]; simp [h1, h2]), rfl⟩
      · cases e1 : ((c.toNat : Int) == 35) with
        | true => exfalso; simp at e1; omega
        | false =>
          cases e2 : ((c.toNat : Int) == 46) with
          | true => exfalso; simp at e2; omega
          | false =>
            cases e3 : ((c.toNat : Int) == 37) with
            | true => exfalso; simp at e3; omega
            | false =>
              cases e4 : ((c.toNat : Int) == 45) with
              | true => exfalso; simp at e4; omega
              | false =>
                go_wp2_with (go_at_call 53; refine HLW.out.mono ?_; rintro e w2 ⟨rfl, rfl⟩)
                go_ret
                exact ⟨retb (by rw [← HX.out, e1, e2, e3, e4]; simp [h1, h2]), rfl⟩
    · cases e1 : ((c.toNat : Int) == 35) with
      | true =>
        go_wp2_with (go_at_call 53; refine HLW.out.mono ?_; rintro e w2 ⟨rfl, rfl⟩)
        go_ret
        exact ⟨retb (by rw [← HX.out, e1]; simp), rfl⟩
      | false =>
        cases e2 : ((c.toNat : Int) == 46) with
        | true =>
          go_wp2_with (go_at_call 53; refine HLW.out.mono ?_; rintro e w2 ⟨rfl, rfl⟩)
          go_ret
          exact ⟨retb (by rw [← HX.out, e2]; simp), rfl⟩
        | false =>
          cases e3 : ((c.toNat : Int) == 37) with
          | true =>
            go_wp2_with (go_at_call 53; refine HLW.out.mono ?_; rintro e w2 ⟨rfl, rfl⟩)
            go_ret
            exact ⟨retb (by rw [← HX.out, e3]; simp), rfl⟩
          | false =>
            cases e4 : ((c.toNat : Int) == 45) with
            | true =>
              go_wp2_with (go_at_call 53; refine HLW.out.mono ?_; rintro e w2 ⟨rfl, rfl⟩)
              go_ret
              exact ⟨retb (by rw [← HX.out, e4]; simp), rfl⟩
            | false =>
              go_wp2_with (go_at_call 53; refine HLW.out.mono ?_; rintro e w2 ⟨rfl, rfl⟩)
              go_ret
              exact ⟨retb (by rw [← HX.out, e1, e2, e3, e4]; simp; omega), rfl⟩

theorem sname_gen (w : World) (b : Nat) (s : B) (a : Nat) (f : Flt) (v : Value) (h : WkAt w b s a f v) (hg : f.err = 0 → f = good) :
    Calls Try.prog 39 #[.pointer (some ⟨b, 0, none⟩), .int .i64 2] w fun e w' => ∃ nm : B, e = .returned (.string (str nm)) ∧ Kept (· = b) w w' ∧
      ∃ f' a', WkAt w' b s a' f' v ∧ (f'.err = 0 → f' = good ∧ nm.length ≤ 20) ∧ nm.length ≤ s.length ∧ Hid (Step f (sName (s.drop a) a) f' (nm, s.drop a', a')) := by
  refine (rname_any 2 (by omega) w b s a f v h).mono ?_
  rintro e w1 ⟨rfl, hk, h1⟩
  refine ⟨_, rfl, hk, ?_⟩
  have hn := nameLen_le (s.drop a)
  have hlen : ((s.drop a).take (nameLen (s.drop a))).length = nameLen (s.drop a) := by rw [List.length_take]; omega
  have hls : ((s.drop a).take (nameLen (s.drop a))).length ≤ s.length := by rw [hlen]; rw [List.length_drop] at hn; omega
  by_cases hf : f.err = 0
  · rw [if_neg (by simp [hf])] at h1
    by_cases h0 : nameLen (s.drop a) = 0
    · rw [if_pos h0] at h1
      refine ⟨_, _, h1, fun hh => absurd hh (by simp), hls, Lib.hid ⟨fun hh => absurd hf hh, fun _ => .inr ⟨by simp, ?_⟩⟩⟩
      unfold sName; rw [if_pos (.inl h0)]
    · rw [if_neg h0] at h1
      by_cases h20 : 20 < nameLen (s.drop a)
      · rw [if_pos h20] at h1
        refine ⟨_, _, h1, fun hh => absurd hh (by simp), hls, Lib.hid ⟨fun hh => absurd hf hh, fun _ => .inr ⟨by simp, ?_⟩⟩⟩
        unfold sName; rw [if_pos (.inr h20)]
      · rw [if_neg h20] at h1
        refine ⟨_, _, h1, fun _ => ⟨hg hf, by omega⟩, hls, Lib.hid ⟨fun hh => absurd hf hh, fun _ => .inl ⟨hf, ?_⟩⟩⟩
        unfold sName; rw [if_neg (by omega), List.drop_drop]
  · rw [if_pos hf] at h1
    exact ⟨f, a, h1, fun hh => absurd hh hf, hls, Lib.hid (Step.dead hf)⟩

end Go.Proofs.Ytplbdlgmjehckab
