/-
  The reader of sheets: a name.
-/
import Derived.Test.YtplbdlgmjehckabShWalk
import Derived.Test.YtplbdlgmjehckabNamed
namespace Go.Proofs.Ytplbdlgmjehckab
open Go.RowKit
set_option linter.unusedVariables false
set_option linter.unusedSimpArgs false

theorem named_take {l : B} {j : Nat} (h1 : j + 1 ≤ nameLen l) (h2 : j + 1 ≤ 20) : named (l.take (j + 1)) = true := by
  have hle := nameLen_le l
  refine named_yes (by simp; omega) (by simp; omega) (fun i hi => ?_)
  have hi' : i < j + 1 := by simp at hi; omega
  obtain ⟨h3, h4⟩ := nameLen_in l i (by omega)
  rw [List.getElem_take]; exact h4
theorem named_take_no {l : B} (h : min (nameLen l) 20 < l.length) : named (l.take (min (nameLen l) 20 + 1)) = false := by
  have hle := nameLen_le l
  by_cases h20 : 20 ≤ nameLen l
  · have : min (nameLen l) 20 = 20 := by omega
    rw [this]
    unfold named
    have : (l.take (20 + 1)).length = 21 := by simp; omega
    rw [this]; simp
  · have : min (nameLen l) 20 = nameLen l := by omega
    rw [this] at h ⊢
    have ho := nameLen_out l h
    refine named_no (k := nameLen l) (by simp; omega) ?_
    rw [List.getElem_take]; exact ho
theorem named_ax (c : UInt8) : named [97, c] = isMore c := by
  unfold named
  have : nameLen [97, c] = if isMore c then 2 else 1 := by
    simp only [nameLen]
    rw [if_pos (by decide)]
    simp only [List.takeWhile_cons, List.takeWhile_nil]
    split <;> rfl
  rw [this]
  cases isMore c <;> rfl
theorem more_at {l : B} (h : 20 < l.length) (hn : 20 ≤ nameLen l) : isMore (l[20]'h) = decide (20 < nameLen l) := by
  by_cases h2 : 20 < nameLen l
  · obtain ⟨h3, h4⟩ := nameLen_in l 20 h2
    simpa [inName, h2] using h4
  · have e : nameLen l = 20 := by omega
    have := nameLen_out l (by omega)
    simp only [e] at this
    simpa [inName, h2] using this

theorem named_is (r : Bool) (l : B) (w : World) (h : named l = r) :
    Calls Try.prog 49 #[.string (str l)] w fun e w' => e = .returned (.bool r) ∧ w' = w := by
  subst h; exact named_any w l

set_option maxRecDepth 100000 in
set_option maxHeartbeats 1600000 in
theorem sname_sum (w : World) (b : Nat) (s : B) (at_ : Nat) (h : SdAt w b s at_) :
    Calls Try.prog 33 #[.pointer (some ⟨b, 0, none⟩)] w (SSum (sName (s.drop at_) at_) w b s (fun _ nm e => e = .returned (.string (str nm)))) := by
  obtain ⟨r, HR⟩ : ∃ r, Hid (sName (s.drop at_) at_ = r) := ⟨_, rfl⟩
  rw [HR.out]
  have H := Lib.hid h
  have c0 := h.c0
  have c1 := h.c1
  have f1 := h.free 1
  have hl := h.2.1
  have hmx := h.2.2
  clear h
  have hnl := nameLen_le (s.drop at_)
  rw [List.length_drop] at hnl
  obtain ⟨n, HN⟩ : ∃ n, Hid (min (nameLen (s.drop at_)) 20 = n) := ⟨_, rfl⟩
  have hn : at_ + n ≤ s.length := by have := HN.out; omega
  have hn20 : n ≤ 20 := by have := HN.out; omega
  clear hnl
  go_enter Try.func33, Try.ntmps33
  go_upto_block 0 with fail
  go_cut [3] (fun k wx => k = .int .i64 ((at_ + n : Nat) : Int) ∧ Qt w wx)
  case first =>
    go_wp2_with fail
    go_loopw [3] (fun k wr => ∃ j : Nat, j ≤ n ∧ k = .int .i64 ((at_ + j : Nat) : Int) ∧ Hid (Qt w wr)) (fun k _ => s.length - (intOf k).toNat)
    case atStart => exact ⟨0, by omega, rfl, Lib.hid (Qt.refl w)⟩
    case round =>
      obtain ⟨j, hj, rfl, HQ⟩ := hrel
      have c0' := (H.out.quiet HQ.out).c0
      have c1' := (H.out.quiet HQ.out).c1
      by_cases hlt : at_ + j < s.length
      · have e5 : IntKind.i64.wrap ((at_ : Int) + (j : Int) + 1) = (at_ : Int) + (j : Int) + 1 := IntWalk.i64_in _ (by omega)
        have e6 : (0 : Int) ≤ (at_ : Int) + (j : Int) + 1 := by omega
        have e7 : ((at_ : Int) + (j : Int) + 1).toNat = at_ + (j + 1) := by omega
        have e0 : decide ((at_ : Int) + (j : Int) < (s.length : Int)) = true := by simp; omega
        have e8 : (at_ : Int) + (j : Int) + 1 ≤ (s.length : Int) := by omega
        have e9 : (at_ : Int) ≤ (at_ : Int) + (j : Int) + 1 := by omega
        by_cases hjn : j < n
        · have HT : Hid (∀ x, x = j + 1 → named ((s.drop at_).take x) = true) := Lib.hid (fun x hx => by rw [hx]; exact named_take (by have := HN.out; omega) (by omega))
          go_wp2_with fail
          go_quiet ((go_at_call 49; exact Calls.quiet_of_same (named_is true _ _ (HT.out _ (by omega)))))
          go_wp2_with fail
          go_roundw
          case rel => exact ⟨j + 1, by omega, by go_num, Lib.hid (HQ.out.trans ⟨nq, rfl⟩)⟩
          case measure => simp [intOf]; omega
        · have hje : j = n := by omega
          subst hje
          have HT : Hid (∀ x, x = j + 1 → named ((s.drop at_).take x) = false) := Lib.hid (fun x hx => by
            rw [hx]
            have := named_take_no (l := s.drop at_) (by rw [HN.out, List.length_drop]; omega)
            rw [HN.out] at this; exact this)
          go_wp2_with fail
          go_quiet ((go_at_call 49; exact Calls.quiet_of_same (named_is false _ _ (HT.out _ (by omega)))))
          go_wp2_with fail
          go_meet
          case rel => exact ⟨rfl, HQ.out.trans ⟨nq, rfl⟩⟩
      · obtain rfl : j = n := by omega
        have e0 : decide ((at_ : Int) + (j : Int) < (s.length : Int)) = false := by simp; omega
        go_wp2_with fail
        go_quiet (fail)
        go_wp2_with fail
        go_meet
        case rel => exact ⟨rfl, HQ.out.trans ⟨nq, rfl⟩⟩
  case rest =>
    obtain ⟨rfl, hq⟩ := hcut
    have HS := Lib.hid (H.out.quiet hq)
    have HK := Lib.hid (hq.kept (· = b))
    clear c0 c1 f1 hq
    have c0 := HS.out.c0
    have c1 := HS.out.c1
    have f1 := HS.out.free 1
    by_cases h0 : n = 0
    · subst h0
      have hR : Hid (r = .bad ⟨2, at_⟩) := Lib.hid (by rw [← HR.out]; unfold sName; rw [if_pos (.inl (by have := HN.out; omega))])
      have e1 : (((at_ + 0 : Nat) : Int) == (at_ : Int)) = true := by simp
      go_wp2_with fail
      refine (sfail_any 2 _ _ _ _ HS.out).mono ?_
      rintro e w2 ⟨rfl, hq2⟩
      go_wp2_with fail
      exact ⟨rfl, .inl ⟨_, rfl, HK.out.trans (hq2.kept _), hR⟩⟩
    · have e1 : (((at_ : Int) + (n : Int)) == (at_ : Int)) = false := by simp; omega
      have good : ∀ nq, nameLen (s.drop at_) = n → SSum r w b s (fun _ nm e => e = .returned (.string (str nm))) (.returned (.string (str ((s.drop at_).take (at_ + n - at_))))) ((wc.drewN nq).setCell ⟨b, 1, none⟩ (.int .i64 ((at_ : Int) + (n : Int)))) := fun nq hnn =>
        .inr ⟨(s.drop at_).take n, at_ + n, by rw [Nat.add_sub_cancel_left], (HK.out.drewN _).setCell (p := ⟨b, 1, none⟩) (.inl rfl) _, (HS.out.drewN _).set (by omega) hn, Lib.hid (by
          rw [← HR.out]; unfold sName; rw [hnn, if_neg (by omega), List.drop_drop])⟩
      have GOOD := Lib.hid good
      clear good
      by_cases hlt : at_ + n < s.length
      · have e2 : decide ((at_ : Int) + (n : Int) < (s.length : Int)) = true := by simp; omega
        by_cases h20 : n = 20
        · have HM20 := Lib.hid (more_at (l := s.drop at_) (by rw [List.length_drop]; omega) (by have := HN.out; omega))
          subst h20
          have HC := Lib.hid (List.drop_eq_getElem_cons hlt)
          have HT : Hid (named (97 :: (s.drop (at_ + 20)).take 1) = isMore (s[at_ + 20]'hlt)) := Lib.hid (by rw [HC.out]; exact named_ax _)
          have HMM : Hid (isMore (s[at_ + 20]'hlt) = decide (20 < nameLen (s.drop at_))) := Lib.hid (by rw [← HM20.out]; simp)
          cases hm : isMore (s[at_ + 20]'hlt) with
          | true =>
            have hR : Hid (r = .bad ⟨2, at_⟩) := Lib.hid (by rw [← HR.out]; unfold sName; rw [if_pos (.inr (by have := HMM.out; rw [hm] at this; simpa using this.symm))])
            have HM := Lib.hid hm
            clear hm
            go_wp2_with fail
            refine (named_is true _ _ (HT.out.trans HM.out)).mono ?_
            rintro e w2 ⟨rfl, rfl⟩
            go_wp2_with fail
            refine (sfail_any 2 _ _ _ _ HS.out).mono ?_
            rintro e w2 ⟨rfl, hq2⟩
            go_wp2_with fail
            exact ⟨rfl, .inl ⟨_, rfl, HK.out.trans (hq2.kept _), hR⟩⟩
          | false =>
            have HN2 : Hid (nameLen (s.drop at_) = 20) := Lib.hid (by have h1 := HMM.out; rw [hm] at h1; have := HN.out; simp at h1; omega)
            have HM := Lib.hid hm
            clear hm
            go_wp2_with fail
            refine (named_is false _ _ (HT.out.trans HM.out)).mono ?_
            rintro e w2 ⟨rfl, rfl⟩
            go_wp2_with fail
            go_quiet (fail)
            go_wp2_with fail
            go_ret
            exact GOOD.out _ HN2.out
        · have e3 : (((at_ : Int) + (n : Int) - (at_ : Int)) == 20) = false := by simp; omega
          have e4 : ((n : Int) == 20) = false := by simp; omega
          have HN2 : Hid (nameLen (s.drop at_) = n) := Lib.hid (by have := HN.out; omega)
          go_wp2_with fail
          go_quiet (fail)
          go_wp2_with fail
          go_ret
          exact GOOD.out _ HN2.out
      · have e2 : decide ((at_ : Int) + (n : Int) < (s.length : Int)) = false := by simp; omega
        have HN2 : Hid (nameLen (s.drop at_) = n) := Lib.hid (by
          have h1 := HN.out
          by_cases h3 : n < nameLen (s.drop at_)
          · have := nameLen_le (s.drop at_); rw [List.length_drop] at this; omega
          · omega)
        go_wp2_with fail
        go_quiet (fail)
        go_wp2_with fail
        go_ret
        exact GOOD.out _ HN2.out

end Go.Proofs.Ytplbdlgmjehckab
