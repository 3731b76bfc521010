/-
  Lemmas for the claims of this seat: the program's functions walked, and plain laws. In this order: RfBlank RfMid.
-/
import Derived.Test.YtplbdlgmjehckabGreatDoorPk13
import Derived.Test.YtplbdlgmjehckabGreatDoorPk5
import Derived.Deep.DeepCutAuto
import Derived.Deep.CutBlock
import Derived.Deep.LoopGhost
import Derived.Test.YtplbdlgmjehckabGreatDoorPk3
import Derived.Test.YtplbdlgmjehckabGreatDoorPk2
namespace Go.Proofs.YtplbdlgmjehckabGreatDoor
open Go.RowKit
set_option linter.unusedVariables false
set_option linter.unusedSimpArgs false
set_option maxRecDepth 100000 in
set_option maxHeartbeats 3200000 in
theorem rblank_gen (w : World) (b : Nat) (s : B) (a : Nat) (f : Flt) (v : Value) (h : WkAt w b s a f v) (hg : f.err = 0 → f = good) :
    Calls Tryz.prog 111 #[.pointer (some ⟨b, 0, none⟩)] w fun e w' => ∃ f' a', e = .returned (.bool (decide (a < a'))) ∧ Kept (· = b) w w' ∧ WkAt w' b s a' f' v ∧ (f'.err = 0 → f' = good) ∧ Hid (Step f (sGap (s.drop a) a) f' (s.drop a', a')) := by
  obtain ⟨r, HR⟩ : ∃ r, Hid (sGap (s.drop a) a = r) := ⟨_, rfl⟩
  rw [HR.out]
  have H := Lib.hid h
  have c1 := h.c1
  have hl := h.2.1
  have hmx := h.2.2
  clear h
  by_cases hf : f.err = 0
  · obtain rfl := hg hf
    clear hg
    go_enter Tryz.func111, Tryz.ntmps111
    go_upto_block 0 with fail
    clear c1
    go_cut [] (fun wx => ∃ f' a', WkAt wx b s a' f' v ∧ Hid (Kept (· = b) w wx) ∧ (f'.err = 0 → f' = good) ∧ Hid (Step good r f' (s.drop a', a')))
    case first =>
      go_wp2_with fail
      go_loopg [] (s.length - a) (fun k wr => ∃ p, WkAt wr b s p good v ∧ Hid (Kept (· = b) w wr) ∧ Hid (sGap (s.drop p) p = r) ∧ k = s.length - p)
      case atStart => exact ⟨a, H.out, Lib.hid (Kept.refl _ _), HR, rfl⟩
      case round =>
        obtain ⟨p, hsd, HK, HG, hk⟩ := hrel
        have HS := Lib.hid hsd
        have c0 := hsd.c0
        have c1 := hsd.c1
        have f1 := hsd.free 1
        have hl' := hsd.2.1
        clear hsd
        by_cases hlt : p < s.length
        · have hd := List.drop_eq_getElem_cons hlt
          have hG := HG.out
          rw [hd, gap_cons, ← hd] at hG
          have HD := Lib.hid hd
          clear hd
          have hi0 : (0 : Int) ≤ (p : Int) := by omega
          have hi1 : (p : Int) < (s.length : Int) := by omega
          cases e1 : (((s[p]'hlt).toNat : Int) == 32) with
          | true =>
            rw [if_pos (.inl (by simp at e1; omega))] at hG
            have HGN := Lib.hid hG
            clear hG
            have e2 : ∀ x : Bool, ((((s[p]'hlt).toNat : Int) == 32) || x) = true := fun x => by rw [e1]; rfl
            go_wp2_with fail
            go_quiet ((go_at_call 71; exact Calls.quiet_of_same (ok_is true _ _ _ _ _ _ HS.out rfl)))
            go_wp2_with fail
            go_quiet (fail)
            go_wp2_with fail
            go_roundg (s.length - (p + 1))
            case measure => omega
            case rel => exact ⟨p + 1, ((HS.out.drewN _).set (by omega) (by omega)), Lib.hid ((HK.out.drewN _).setCell (p := ⟨b, 1, none⟩) (.inl rfl) _), HGN, rfl⟩
          | false =>
            cases e2 : (((s[p]'hlt).toNat : Int) == 10) with
            | true =>
              rw [if_pos (.inr (by simp at e2; omega))] at hG
              have HGN := Lib.hid hG
              clear hG
              go_wp2_with fail
              go_quiet ((go_at_call 71; exact Calls.quiet_of_same (ok_is true _ _ _ _ _ _ HS.out rfl)))
              go_wp2_with fail
              go_quiet (fail)
              go_wp2_with fail
              go_roundg (s.length - (p + 1))
              case measure => omega
              case rel => exact ⟨p + 1, ((HS.out.drewN _).set (by omega) (by omega)), Lib.hid ((HK.out.drewN _).setCell (p := ⟨b, 1, none⟩) (.inl rfl) _), HGN, rfl⟩
            | false =>
              rw [if_neg (by simp at e1 e2; omega)] at hG
              have HGN := Lib.hid hG
              clear hG
              go_wp2_with fail
              go_quiet ((go_at_call 71; exact Calls.quiet_of_same (ok_is true _ _ _ _ _ _ HS.out rfl)))
              go_wp2_with fail
              go_quiet (fail)
              go_wp2_with fail
              cases hp : gapBegin.isPrefixOf (s.drop p) with
              | false =>
                refine (on_good gapBegin false _ _ _ _ _ _ (HS.out.drewN _) rfl (by decide) hp).mono ?_
                rintro e w1 ⟨rfl, hw1⟩
                have hq1 : Qt wr w1 := Qt.trans ⟨_, rfl⟩ hw1
                have HQ1 := Lib.hid hq1
                clear hw1 hq1
                have hR : Hid (r = .ok (s.drop p, p)) := Lib.hid (by have := HGN.out; rw [hp] at this; exact this.symm)
                clear hp
                go_wp2_with fail
                go_meet
                case rel => exact ⟨good, p, HS.out.quiet HQ1.out, Lib.hid (HK.out.trans (HQ1.out.kept _)), fun _ => rfl, Lib.hid (Step.ok hR.out)⟩
              | true =>
                have hp2 : p + 2 ≤ s.length := by
                  have := (List.isPrefixOf_iff_prefix.1 hp).length_le
                  rw [List.length_drop] at this
                  simp only [gapBegin, List.length_cons, List.length_nil] at this
                  omega
                have hG := HGN.out
                rw [hp, if_pos rfl, List.drop_drop] at hG
                have HGM := Lib.hid hG
                refine (on_good gapBegin true _ _ _ _ _ _ (HS.out.drewN _) rfl (by decide) hp).mono ?_
                rintro e w1 ⟨rfl, hw1⟩
                have hq1 : Qt wr w1 := Qt.trans ⟨_, rfl⟩ hw1
                have HS1 := Lib.hid (HS.out.quiet hq1)
                have HK1 := Lib.hid (HK.out.trans (hq1.kept _))
                clear c0 c1 f1 hw1 hG hp hq1
                have c0 := HS1.out.c0
                have c1 := HS1.out.c1
                have f1 := HS1.out.free 1
                have h4 : WkAt (w1.setCell ⟨b, 1, none⟩ (.int .i64 ((p : Int) + 2))) b s (p + 2) good v := HS1.out.set (by omega) (by omega)
                have H4 := Lib.hid h4
                obtain ⟨w4, HW4⟩ : ∃ x, Hid (w1.setCell ⟨b, 1, none⟩ (.int .i64 ((p : Int) + 2)) = x) := ⟨_, rfl⟩
                have HK4 : Hid (Kept (· = b) w w4) := Lib.hid (by rw [← HW4.out]; exact HK1.out.setCell (p := ⟨b, 1, none⟩) (.inl rfl) _)
                have H5 : Hid (WkAt w4 b s (p + 2) good v) := Lib.hid (by rw [← HW4.out]; exact H4.out)
                clear h4 H4
                go_upto_region 8 with fail
                rw [HW4.out]
                clear HW4 HS1 HK1 c0 c1 f1
                have f1 := H5.out.free 1
                have c1 := H5.out.c1
                cases hf : findSub gapEnd (s.drop (p + 2)) with
                | none =>
                  have HF : Hid (absFind s gapEnd (p + 2) = none) := Lib.hid (by unfold absFind; rw [hf]; rfl)
                  have hR : Hid (r = .bad ⟨2, p⟩) := Lib.hid (by have := HGM.out; rw [hf] at this; exact this.symm)
                  clear hf
                  have h6 : WkAt (w4.setCell ⟨b, 1, none⟩ (.int .i64 (p : Int))) b s p good v := H5.out.set rfl (by omega)
                  have H6 := Lib.hid h6
                  clear h6
                  go_wp2_with (go_at_call 141; refine (find_any gapEnd none _ b s (p + 2) good v H5.out (by decide) (by decide) HF.out).mono ?_; rintro e2 w5 ⟨rfl, rfl⟩)
                  refine (stop_good 2 p _ b s p good v H6.out rfl).mono ?_
                  rintro e w9 ⟨rfl, hk9, h9⟩
                  have HK9 := Lib.hid ((HK4.out.setCell (p := ⟨b, 1, none⟩) (.inl rfl) _).trans hk9)
                  have H9 := Lib.hid h9
                  clear hk9 h9
                  go_wp2_with fail
                  go_meet
                  case rel => exact ⟨⟨2, p⟩, p, H9.out, HK9, fun hh => absurd hh (by simp), Lib.hid (Step.bad hR.out (by simp))⟩
                | some e =>
                  have hfl := findSub_le _ _ _ hf
                  rw [List.length_drop] at hfl
                  have hsl : gapEnd.length = 2 := rfl
                  rw [hsl] at hfl
                  have HF : Hid (absFind s gapEnd (p + 2) = some (p + 2 + e)) := Lib.hid (by unfold absFind; rw [hf]; rfl)
                  have hGN : Hid (sGap (s.drop (p + (2 + e + 2))) (p + (2 + e + 2)) = r) := Lib.hid (by have := HGM.out; rw [hf] at this; simpa [List.drop_drop] using this)
                  clear hf
                  go_wp2_with (go_at_call 141; refine (find_some gapEnd (p + 2 + e) _ b s (p + 2) good v H5.out (by decide) (by decide) HF.out).mono ?_; rintro e2 w5 ⟨rfl, rfl⟩)
                  go_roundg (s.length - (p + (2 + e + 2)))
                  case measure => omega
                  case rel => exact ⟨p + (2 + e + 2), (H5.out.set (a' := p) rfl (by omega)).set (by omega) (by omega), Lib.hid ((HK4.out.setCell (p := ⟨b, 1, none⟩) (.inl rfl) _).setCell (p := ⟨b, 1, none⟩) (.inl rfl) _), hGN, rfl⟩
        · have hd : decide ((p : Int) < (s.length : Int)) = false := by simp; omega
          have hR : Hid (r = .ok (s.drop p, p)) := Lib.hid (by have := HG.out; rw [List.drop_of_length_le (show s.length ≤ p by omega)] at this ⊢; exact this.symm)
          go_wp2_with fail
          go_quiet ((go_at_call 71; exact Calls.quiet_of_same (ok_is true _ _ _ _ _ _ HS.out rfl)))
          go_wp2_with fail
          go_meet
          case rel => exact ⟨good, p, HS.out.drewN _, Lib.hid (HK.out.drewN _), fun _ => rfl, Lib.hid (Step.ok hR.out)⟩
    case rest =>
      obtain ⟨f', a', hw', HK, hg', HS⟩ := hcut
      have hgt : decide ((a : Int) < (a' : Int)) = decide (a < a') := by rw [Bool.eq_iff_iff]; simp
      have HW := Lib.hid hw'
      have c1 := hw'.c1
      clear hw'
      go_wp2_with fail
      go_ret
      exact ⟨f', a', rfl, HK.out, HW.out, hg', HS⟩
  · have hf' : ((f.err : Int) == 0) = false := by simp; omega
    have hgt : decide (a < a) = false := by simp
    go_enter Tryz.func111, Tryz.ntmps111
    go_wp2_with fail
    go_loopg [] 0 (fun k wr => k = 0 ∧ Hid (WkAt wr b s a f v) ∧ Hid (Kept (· = b) w wr))
    case atStart => exact ⟨rfl, H, Lib.hid (Kept.refl _ _)⟩
    case round =>
      obtain ⟨rfl, HS, HK⟩ := hrel
      have c0 := HS.out.c0
      have c1' := HS.out.c1
      clear c1
      go_wp2_with fail
      go_quiet ((go_at_call 71; exact Calls.quiet_of_same (ok_is false _ _ _ _ _ _ HS.out hf')))
      go_wp2_with fail
      go_ret
      exact ⟨f, a, by rw [hgt]; rfl, HK.out.drewN _, HS.out.drewN _, hg, Lib.hid (Step.dead hf)⟩
theorem rword_num (c : UInt8) : isWord c = (isLow c || (decide (48 ≤ (c.toNat : Int)) && decide ((c.toNat : Int) ≤ 57)) || ((c.toNat : Int) == 35) || ((c.toNat : Int) == 46) || ((c.toNat : Int) == 37) || ((c.toNat : Int) == 45)) := by
  have e : ∀ n : Nat, decide (c.toNat = n) = ((c.toNat : Int) == (n : Int)) := fun n => by
    rw [Bool.eq_iff_iff, decide_eq_true_iff, beq_iff_eq]; omega
  have e2 : decide (48 ≤ c.toNat) = decide (48 ≤ (c.toNat : Int)) := by rw [Bool.eq_iff_iff]; simp; omega
  have e3 : decide (c.toNat ≤ 57) = decide ((c.toNat : Int) ≤ 57) := by rw [Bool.eq_iff_iff]; simp; omega
  unfold isWord
  rw [e 35, e 46, e 37, e 45, e2, e3]
  rfl
set_option maxRecDepth 100000 in
set_option maxHeartbeats 1600000 in
theorem rword_is (c : UInt8) (x : Bool) (w : World) (hx : isWord c = x) : Calls Tryz.prog 115 #[.int .u8 (c.toNat : Int)] w fun e w' => e = .returned (.bool x) ∧ w' = w := by
  rw [rword_num] at hx
  cases hlow : isLow c with
  | true =>
    have HX : Hid (x = true) := Lib.hid (by rw [← hx, hlow]; simp)
    have HLW := Lib.hid (low_is c true w hlow)
    clear hx
    go_enter Tryz.func115, Tryz.ntmps115
    go_wp2_with (go_at_call 16; refine HLW.out.mono ?_; rintro e w2 ⟨rfl, rfl⟩)
    go_ret
    exact ⟨retb HX.out.symm, rfl⟩
  | false =>
    have HLW := Lib.hid (low_is c false w hlow)
    rw [hlow] at hx
    have HX := Lib.hid hx
    clear hx
    go_enter Tryz.func115, Tryz.ntmps115
    by_cases h1 : 48 ≤ (c.toNat : Int)
    · by_cases h2 : (c.toNat : Int) ≤ 57
      · go_wp2_with (go_at_call 16; refine HLW.out.mono ?_; rintro e w2 ⟨rfl, rfl⟩)
        go_ret
        exact ⟨retb (by rw [← HX.out]; simp [h1, h2]), rfl⟩
      · cases e1 : ((c.toNat : Int) == 35) with
        | true => exfalso; simp at e1; omega
        | false =>
          cases e2 : ((c.toNat : Int) == 46) with
          | true => exfalso; simp at e2; omega
          | false =>
            cases e3 : ((c.toNat : Int) == 37) with
            | true => exfalso; simp at e3; omega
            | false =>
              cases e4 : ((c.toNat : Int) == 45) with
              | true => exfalso; simp at e4; omega
              | false =>
                go_wp2_with (go_at_call 16; refine HLW.out.mono ?_; rintro e w2 ⟨rfl, rfl⟩)
                go_ret
                exact ⟨retb (by rw [← HX.out, e1, e2, e3, e4]; simp [h1, h2]), rfl⟩
    · cases e1 : ((c.toNat : Int) == 35) with
      | true =>
        go_wp2_with (go_at_call 16; refine HLW.out.mono ?_; rintro e w2 ⟨rfl, rfl⟩)
        go_ret
        exact ⟨retb (by rw [← HX.out, e1]; simp), rfl⟩
      | false =>
        cases e2 : ((c.toNat : Int) == 46) with
        | true =>
          go_wp2_with (go_at_call 16; refine HLW.out.mono ?_; rintro e w2 ⟨rfl, rfl⟩)
          go_ret
          exact ⟨retb (by rw [← HX.out, e2]; simp), rfl⟩
        | false =>
          cases e3 : ((c.toNat : Int) == 37) with
          | true =>
            go_wp2_with (go_at_call 16; refine HLW.out.mono ?_; rintro e w2 ⟨rfl, rfl⟩)
            go_ret
            exact ⟨retb (by rw [← HX.out, e3]; simp), rfl⟩
          | false =>
            cases e4 : ((c.toNat : Int) == 45) with
            | true =>
              go_wp2_with (go_at_call 16; refine HLW.out.mono ?_; rintro e w2 ⟨rfl, rfl⟩)
              go_ret
              exact ⟨retb (by rw [← HX.out, e4]; simp), rfl⟩
            | false =>
              go_wp2_with (go_at_call 16; refine HLW.out.mono ?_; rintro e w2 ⟨rfl, rfl⟩)
              go_ret
              exact ⟨retb (by rw [← HX.out, e1, e2, e3, e4]; simp; omega), rfl⟩
theorem sname_gen (w : World) (b : Nat) (s : B) (a : Nat) (f : Flt) (v : Value) (h : WkAt w b s a f v) (hg : f.err = 0 → f = good) :
    Calls Tryz.prog 113 #[.pointer (some ⟨b, 0, none⟩), .int .i64 2] w fun e w' => ∃ nm : B, e = .returned (.string (str nm)) ∧ Kept (· = b) w w' ∧
      ∃ f' a', WkAt w' b s a' f' v ∧ (f'.err = 0 → f' = good ∧ nm.length ≤ 20) ∧ nm.length ≤ s.length ∧ Hid (Step f (sName (s.drop a) a) f' (nm, s.drop a', a')) := by
  refine (rname_any 2 (by omega) w b s a f v h).mono ?_
  rintro e w1 ⟨rfl, hk, h1⟩
  refine ⟨_, rfl, hk, ?_⟩
  have hn := nameLen_le (s.drop a)
  have hlen : ((s.drop a).take (nameLen (s.drop a))).length = nameLen (s.drop a) := by rw [List.length_take]; omega
  have hls : ((s.drop a).take (nameLen (s.drop a))).length ≤ s.length := by rw [hlen]; rw [List.length_drop] at hn; omega
  by_cases hf : f.err = 0
  · rw [if_neg (by simp [hf])] at h1
    by_cases h0 : nameLen (s.drop a) = 0
    · rw [if_pos h0] at h1
      refine ⟨_, _, h1, fun hh => absurd hh (by simp), hls, Lib.hid ⟨fun hh => absurd hf hh, fun _ => .inr ⟨by simp, ?_⟩⟩⟩
      unfold sName; rw [if_pos (.inl h0)]
    · rw [if_neg h0] at h1
      by_cases h20 : 20 < nameLen (s.drop a)
      · rw [if_pos h20] at h1
        refine ⟨_, _, h1, fun hh => absurd hh (by simp), hls, Lib.hid ⟨fun hh => absurd hf hh, fun _ => .inr ⟨by simp, ?_⟩⟩⟩
        unfold sName; rw [if_pos (.inr h20)]
      · rw [if_neg h20] at h1
        refine ⟨_, _, h1, fun _ => ⟨hg hf, by omega⟩, hls, Lib.hid ⟨fun hh => absurd hf hh, fun _ => .inl ⟨hf, ?_⟩⟩⟩
        unfold sName; rw [if_neg (by omega), List.drop_drop]
  · rw [if_pos hf] at h1
    exact ⟨f, a, h1, fun hh => absurd hh hf, hls, Lib.hid (Step.dead hf)⟩
end Go.Proofs.YtplbdlgmjehckabGreatDoor

namespace Go.Proofs.YtplbdlgmjehckabGreatDoor
open Go.RowKit
set_option linter.unusedVariables false
set_option linter.unusedSimpArgs false
def Mid {α : Type} (f0 : Flt) (A : Ans α) (f : Flt) (X : Ans α) : Prop := (f0.err ≠ 0 → f = f0) ∧ (f0.err = 0 → St A f X)
section
variable {α β : Type} {f0 f f' : Flt} {A X Y : Ans α}
theorem Mid.start (A : Ans α) (f : Flt) : Mid f A f A := ⟨fun _ => rfl, fun hf => ⟨fun hh => absurd hf hh, fun _ => rfl⟩⟩
theorem Mid.step {R : Ans β} {k : β → Ans α} {x : β} (h : Mid f0 A f (R.then k)) (hs : Step f R f' x) : Mid f0 A f' (k x) := by
  refine ⟨fun hh => ?_, fun hh => (h.2 hh).step hs⟩
  have := h.1 hh
  subst this
  exact hs.1 hh
theorem Mid.fin {x : α} (h : Mid f0 A f (.ok x)) : Step f0 A f x := by
  refine ⟨h.1, fun hh => ?_⟩
  by_cases hf : f.err = 0
  · exact .inl ⟨hf, (h.2 hh).2 hf⟩
  · exact .inr ⟨hf, (h.2 hh).1 hf⟩
theorem Mid.live (h : Mid f0 A f X) (hf : f.err = 0) : f0.err = 0 ∧ A = X := by
  by_cases hh : f0.err = 0
  · exact ⟨hh, (h.2 hh).2 hf⟩
  · rw [h.1 hh] at hf; exact absurd hf hh
theorem Mid.kill (h : Mid f0 A f X) (hf : f.err = 0) (hX : X = .bad f') (hf' : f'.err ≠ 0) : Mid f0 A f' Y := by
  obtain ⟨h1, h2⟩ := h.live hf
  exact ⟨fun hh => absurd h1 hh, fun _ => ⟨fun _ => h2.trans hX, fun hh => absurd hh hf'⟩⟩
theorem Mid.dead (h : Mid f0 A f X) (hf : f.err ≠ 0) : Mid f0 A f Y := ⟨h.1, fun hh => ⟨(h.2 hh).1, fun h0 => absurd h0 hf⟩⟩
theorem Mid.eq (h : Mid f0 A f X) (hX : f.err = 0 → X = Y) : Mid f0 A f Y := ⟨h.1, fun hh => ⟨(h.2 hh).1, fun h0 => ((h.2 hh).2 h0).trans (hX h0)⟩⟩
end
theorem eat_gen (word : B) (w : World) (b : Nat) (s : B) (a : Nat) (f : Flt) (v : Value) (h : WkAt w b s a f v) (hw : word.length ≤ 100) (hne : word ≠ []) :
    Calls Tryz.prog 116 #[.pointer (some ⟨b, 0, none⟩), .string (str word)] w fun e w' => ∃ x : Bool, e = .returned (.bool x) ∧ Kept (· = b) w w' ∧ ∃ a', WkAt w' b s a' f v ∧
      (x = true → f.err = 0 ∧ word.isPrefixOf (s.drop a) = true ∧ a' = a + word.length) ∧ (x = false → a' = a ∧ (f.err = 0 → word.isPrefixOf (s.drop a) = false)) := by
  by_cases hf : f.err = 0
  · cases hx : word.isPrefixOf (s.drop a) with
    | true =>
      refine (eat_yes word _ _ _ _ _ _ h hf hw hne hx).mono ?_
      rintro e w1 ⟨rfl, hk, h1⟩
      exact ⟨true, rfl, hk, _, h1, fun _ => ⟨hf, rfl, rfl⟩, fun hh => by cases hh⟩
    | false =>
      refine (eat_no word _ _ _ _ _ _ h hw (fun _ => hx)).mono ?_
      rintro e w1 ⟨rfl, n, rfl⟩
      exact ⟨false, rfl, (Kept.refl _ w).drewN n, a, h.drewN n, (fun hh => by cases hh), fun _ => ⟨rfl, fun _ => rfl⟩⟩
  · refine (eat_no word _ _ _ _ _ _ h hw (fun hh => absurd hh hf)).mono ?_
    rintro e w1 ⟨rfl, n, rfl⟩
    exact ⟨false, rfl, (Kept.refl _ w).drewN n, a, h.drewN n, (fun hh => by cases hh), fun _ => ⟨rfl, fun hh => absurd hh hf⟩⟩
structure DBox (w0 wr : World) (b db : Nat) (s : B) (v : Value) (nm vl : B) (st : Bool) (f : Flt) (p : Nat) : Prop where
  rd : WkAt wr b s p f v
  box : wr.heap[db]? = some (.cells #[.string (str nm), .string (str vl), .bool st] 89 (0, 0))
  kept : Kept (· = b) w0 wr
  al : f.err = 0 → f = good
  new : w0.heap.size ≤ db
  hb : b < db
section
variable {w0 wr wx : World} {b db : Nat} {s : B} {v : Value} {nm vl : B} {st : Bool} {f f' : Flt} {p p' : Nat}
theorem DBox.step (h : DBox w0 wr b db s v nm vl st f p) (hk : Kept (· = b) wr wx) (hr : WkAt wx b s p' f' v) (ha : f'.err = 0 → f' = good) : DBox w0 wx b db s v nm vl st f' p' :=
  ⟨hr, hk.heap (by have := h.hb; omega) h.box, h.kept.trans hk, ha, h.new, h.hb⟩
theorem DBox.quiet (h : DBox w0 wr b db s v nm vl st f p) (hq : Qt wr wx) : DBox w0 wx b db s v nm vl st f p := h.step (hq.kept _) (h.rd.quiet hq) h.al
theorem DBox.put (h : DBox w0 wr b db s v nm vl st f p) (vl' : B) : DBox w0 (wr.setCell ⟨db, 1, none⟩ (.string (str vl'))) b db s v nm vl' st f p := by
  have hb := h.hb
  refine ⟨h.rd.kept (S := (· = db)) ((Kept.refl (· = db) wr).setCell (p := ⟨db, 1, none⟩) (.inl rfl) _) (by omega), ?_, h.kept.setCell (p := ⟨db, 1, none⟩) (.inr h.new) _, h.al, h.new, h.hb⟩
  have := setIn h.box 1 (.string (str vl'))
  simpa using this
theorem DBox.strong (h : DBox w0 wr b db s v nm vl st f p) (st' : Bool) : DBox w0 (wr.setCell ⟨db, 2, none⟩ (.bool st')) b db s v nm vl st' f p := by
  have hb := h.hb
  refine ⟨h.rd.kept (S := (· = db)) ((Kept.refl (· = db) wr).setCell (p := ⟨db, 2, none⟩) (.inl rfl) _) (by omega), ?_, h.kept.setCell (p := ⟨db, 2, none⟩) (.inr h.new) _, h.al, h.new, h.hb⟩
  have := setIn h.box 2 (.bool st')
  simpa using this
theorem DBox.set (h : DBox w0 wr b db s v nm vl st f p) {x : Int} (hx : x = (p' : Int)) (hl : p' ≤ s.length) : DBox w0 (wr.setCell ⟨b, 1, none⟩ (.int .i64 x)) b db s v nm vl st f p' :=
  h.step ((Kept.refl (· = b) wr).setCell (p := ⟨b, 1, none⟩) (.inl rfl) _) (h.rd.set hx hl) h.al
end
theorem joinW_snoc : ∀ (ws : List B) (w : B), joinW (ws ++ [w]) = if ws = [] then w else joinW ws ++ ([32] ++ w)
  | [], w => rfl
  | [x], w => by simp [joinW]
  | x :: y :: ws, w => by
    have ih := joinW_snoc (y :: ws) w
    rw [if_neg (by simp)] at ih ⊢
    show x ++ [32] ++ joinW ((y :: ws) ++ [w]) = (x ++ [32] ++ joinW (y :: ws)) ++ ([32] ++ w)
    rw [ih]; simp
theorem valL_end {n : Nat} {ws : List B} {l : B} {a : Nat} (h : l.takeWhile isWord = []) : sValL (n + 1) ws l a = if ws = [] then .bad ⟨2, a⟩ else .ok (joinW ws, l, a) := by
  simp only [sValL, h, if_true]
theorem valL_long {n : Nat} {ws : List B} {l : B} {a : Nat} (h : l.takeWhile isWord ≠ []) (h60 : 60 < (joinW (ws ++ [l.takeWhile isWord])).length) : sValL (n + 1) ws l a = .bad ⟨4, a⟩ := by
  simp only [sValL, h, if_false, if_pos h60]
theorem valL_more {n : Nat} {ws : List B} {l : B} {a : Nat} (h : l.takeWhile isWord ≠ []) (h60 : ¬ 60 < (joinW (ws ++ [l.takeWhile isWord])).length) :
    sValL (n + 1) ws l a = (sGap (l.drop (l.takeWhile isWord).length) (a + (l.takeWhile isWord).length)).then fun x => sValL n (ws ++ [l.takeWhile isWord]) x.1 x.2 := by
  simp only [sValL, h, if_false, if_neg h60]
theorem declsL_end {n : Nat} {ds : List PDecl} {l : B} {a : Nat} (h : (l.isEmpty || [125].isPrefixOf l) = true) : sDeclsL (n + 1) ds l a = .ok (ds, l, a) := by
  simp only [sDeclsL, h, if_true]
theorem declsL_many {n : Nat} {ds : List PDecl} {l : B} {a : Nat} (h : (l.isEmpty || [125].isPrefixOf l) = false) (h20 : ds.length = 20) : sDeclsL (n + 1) ds l a = .bad ⟨5, a⟩ := by
  simp only [sDeclsL, h, h20, if_true]; rfl
theorem declsL_more {n : Nat} {ds : List PDecl} {l : B} {a : Nat} (h : (l.isEmpty || [125].isPrefixOf l) = false) (h20 : ds.length ≠ 20) :
    sDeclsL (n + 1) ds l a = (sDecl l a).then fun x => if [59].isPrefixOf x.2.1 then (sGap (x.2.1.drop 1) (x.2.2 + 1)).then fun y => sDeclsL n (ds ++ [x.1]) y.1 y.2 else .ok (ds ++ [x.1], x.2.1, x.2.2) := by
  simp only [sDeclsL, h, h20, if_false]; rfl
end Go.Proofs.YtplbdlgmjehckabGreatDoor

