/-
  The document's answer: a name.
-/
import Derived.Test.YtplbdlgmjehckabRfName
import Derived.Deep.DeepCutAuto
import Derived.Deep.CutBlock
import Derived.Deep.Light
namespace Go.Proofs.Ytplbdlgmjehckab
open Go.RowKit
set_option linter.unusedVariables false
set_option linter.unusedSimpArgs false

def RNameEnds (w : World) (b : Nat) (s : B) (a : Nat) (f : Flt) (v : Value) (long n : Nat) (e : Ending) (w' : World) : Prop :=
  e = .returned (.string (str ((s.drop a).take n))) ∧ Kept (· = b) w w' ∧
    (if f.err ≠ 0 then WkAt w' b s a f v else if n = 0 then WkAt w' b s a ⟨2, a⟩ v else if 20 < n then WkAt w' b s a ⟨long, a⟩ v else WkAt w' b s (a + n) f v)

theorem inName_more {j : Nat} {c : UInt8} (h : inName j c = true) : isMore c = true ∧ (j = 0 → isLow c = true) := by
  unfold inName at h
  split at h
  · exact ⟨by unfold isMore; simp [h], fun _ => h⟩
  · rename_i hj; exact ⟨h, fun hh => absurd hh hj⟩
theorem inName_less {j : Nat} {c : UInt8} (h : inName j c = false) : (isMore c = false) ∨ (j = 0 ∧ isMore c = true ∧ isLow c = false) := by
  unfold inName at h
  split at h
  · cases hm : isMore c with
    | false => exact .inl rfl
    | true => exact .inr ⟨by assumption, rfl, h⟩
  · exact .inl h

set_option maxHeartbeats 1600000 in
theorem rname_walk (long : Nat) (hlong : 0 < long) (w : World) (b : Nat) (s : B) (a : Nat) (f : Flt) (v : Value) (h : WkAt w b s a f v) (n : Nat) (hn : a + n ≤ s.length)
    (hin : ∀ j, j < n → ∃ h : a + j < s.length, inName j (s[a + j]'h) = true) (hout : (h : a + n < s.length) → inName n (s[a + n]'h) = false) :
    Calls Try.prog 39 #[.pointer (some ⟨b, 0, none⟩), .int .i64 (long : Int)] w (RNameEnds w b s a f v long n) := by
  have H := Lib.hid h
  have HIN := Lib.hid hin
  have HOUT := Lib.hid hout
  have hl := h.2.1
  have hm := h.2.2
  have c0 := h.c0
  have c1 := h.c1
  have f1 := h.free 1
  clear h hin hout
  go_enter Try.func39, Try.ntmps39
  go_upto_block 0 with fail
  go_cut [5] (fun k wx => k = .int .i64 ((a + n : Nat) : Int) ∧ wx = w)
  case first =>
    go_wp2_with fail
    go_loop [5] (fun k => ∃ j : Nat, j ≤ n ∧ k = .int .i64 ((a + j : Nat) : Int)) (fun k => s.length - (intOf k).toNat)
    case atStart => exact ⟨0, by omega, rfl⟩
    case round =>
      obtain ⟨j, hj, rfl⟩ := hrel
      by_cases hlt : j < n
      · obtain ⟨h3, h2⟩ := HIN.out j hlt
        obtain ⟨h4, h5⟩ := inName_more h2
        clear h2
        by_cases hj0 : j = 0
        · have h6 := h5 hj0
          subst hj0
          clear h5
          go_wp2_with (first | (go_at_call 52; refine (more_is _ true _ h4).mono ?_; rintro e w2 ⟨rfl, rfl⟩) | (go_at_call 53; refine (low_is _ true _ h6).mono ?_; rintro e w2 ⟨rfl, rfl⟩))
          go_round
          case rel => exact ⟨0 + 1, by omega, by go_num⟩
          case measure => simp [intOf]; omega
        · clear h5
          have h7 : 0 < j := by omega
          go_wp2_with (go_at_call 52; refine (more_is _ true _ h4).mono ?_; rintro e w2 ⟨rfl, rfl⟩)
          go_round
          case rel => exact ⟨j + 1, by omega, by go_num⟩
          case measure => simp [intOf]; omega
      · obtain rfl : j = n := by omega
        by_cases h3 : a + j < s.length
        · rcases inName_less (HOUT.out h3) with h4 | ⟨h7, h4, h5⟩
          · go_wp2_with (go_at_call 52; refine (more_is _ false _ h4).mono ?_; rintro e w2 ⟨rfl, rfl⟩)
            go_meet
            case rel => exact ⟨rfl, rfl⟩
          · subst h7
            go_wp2_with (first | (go_at_call 52; refine (more_is _ true _ h4).mono ?_; rintro e w2 ⟨rfl, rfl⟩) | (go_at_call 53; refine (low_is _ false _ h5).mono ?_; rintro e w2 ⟨rfl, rfl⟩))
            go_meet
            case rel => exact ⟨rfl, rfl⟩
        · go_wp2
          go_meet
          case rel => exact ⟨rfl, rfl⟩
  case rest =>
    obtain ⟨rfl, rfl⟩ := hcut
    go_wp2
    go_quiet (fail)
    have hmin : min n (s.length - a) = n := by omega
    have hk : Hid (Kept (· = b) wc (wc.drewN nq)) := Lib.hid ((Kept.refl (· = b) wc).drewN nq)
    have H1 : Hid (WkAt (wc.drewN nq) b s a f v) := Lib.hid (H.out.drewN nq)
    by_cases h0 : n = 0
    · have e0 : ((s.drop a).take n).isEmpty = true := by rw [h0]; simp
      have hnl : (n : Int) ≤ 20 := by omega
      have H0 := Lib.hid h0
      clear h0
      by_cases hf : f.err = 0
      · have c1q := H1.out.c1
        go_wp2_with fail
        refine (stop_good 2 a _ _ _ _ _ _ H1.out hf).mono ?_
        rintro e w2 ⟨rfl, hk2, h2⟩
        have K2 := Lib.hid (hk.out.trans hk2)
        have H2 := Lib.hid h2
        clear hk2 h2
        go_wp2_with fail
        refine (ok_is false _ _ _ _ _ _ H2.out (by simp)).mono ?_
        rintro e w3 ⟨rfl, rfl⟩
        go_wp2_with fail
        go_ret
        exact ⟨rets rfl, K2.out, by rw [if_neg (by simp [hf]), if_pos H0.out]; exact H2.out⟩
      · have c1q := H1.out.c1
        have hfe : ((f.err : Int) == 0) = false := by simp; omega
        go_wp2_with fail
        refine (stop_dead 2 a _ _ _ _ _ _ H1.out hf).mono ?_
        rintro e w2 ⟨rfl, rfl⟩
        go_wp2_with fail
        refine (ok_is false _ _ _ _ _ _ H1.out hfe).mono ?_
        rintro e w3 ⟨rfl, rfl⟩
        go_wp2_with fail
        go_ret
        exact ⟨rets rfl, hk.out, by rw [if_pos hf]; exact H1.out⟩
    · have e0 : ((s.drop a).take n).isEmpty = false := by
        cases hx : (s.drop a).take n with
        | nil => have := congrArg List.length hx; simp at this; omega
        | cons _ _ => rfl
      by_cases h20 : 20 < n
      · by_cases hf : f.err = 0
        · have c1q := H1.out.c1
          go_wp2_with fail
          refine (stop_good long a _ _ _ _ _ _ H1.out hf).mono ?_
          rintro e w2 ⟨rfl, hk2, h2⟩
          have K2 := Lib.hid (hk.out.trans hk2)
          have H2 := Lib.hid h2
          have hle : ((long : Int) == 0) = false := by simp; omega
          clear hk2 h2
          go_wp2_with fail
          refine (ok_is false _ _ _ _ _ _ H2.out hle).mono ?_
          rintro e w3 ⟨rfl, rfl⟩
          go_wp2_with fail
          go_ret
          exact ⟨rets rfl, K2.out, by rw [if_neg (by simp [hf]), if_neg h0, if_pos h20]; exact H2.out⟩
        · have c1q := H1.out.c1
          have hfe : ((f.err : Int) == 0) = false := by simp; omega
          go_wp2_with fail
          refine (stop_dead long a _ _ _ _ _ _ H1.out hf).mono ?_
          rintro e w2 ⟨rfl, rfl⟩
          go_wp2_with fail
          refine (ok_is false _ _ _ _ _ _ H1.out hfe).mono ?_
          rintro e w3 ⟨rfl, rfl⟩
          go_wp2_with fail
          go_ret
          exact ⟨rets rfl, hk.out, by rw [if_pos hf]; exact H1.out⟩
      · by_cases hf : f.err = 0
        · have hfe : ((f.err : Int) == 0) = true := by simp [hf]
          go_wp2_with fail
          refine (ok_is true _ _ _ _ _ _ H1.out hfe).mono ?_
          rintro e w3 ⟨rfl, rfl⟩
          go_wp2_with fail
          go_ret
          exact ⟨rets rfl, hk.out.setCell (p := ⟨b, 1, none⟩) (.inl rfl) _, by rw [if_neg (by simp [hf]), if_neg h0, if_neg h20]; exact H1.out.set (by omega) hn⟩
        · have hfe : ((f.err : Int) == 0) = false := by simp; omega
          go_wp2_with fail
          refine (ok_is false _ _ _ _ _ _ H1.out hfe).mono ?_
          rintro e w3 ⟨rfl, rfl⟩
          go_wp2_with fail
          go_ret
          exact ⟨rets rfl, hk.out, by rw [if_pos hf]; exact H1.out⟩

theorem rname_any (long : Nat) (hlong : 0 < long) (w : World) (b : Nat) (s : B) (a : Nat) (f : Flt) (v : Value) (h : WkAt w b s a f v) :
    Calls Try.prog 39 #[.pointer (some ⟨b, 0, none⟩), .int .i64 (long : Int)] w (RNameEnds w b s a f v long (nameLen (s.drop a))) := by
  have hn := nameLen_le (s.drop a)
  rw [List.length_drop] at hn
  have hl := h.2.1
  refine rname_walk long hlong w b s a f v h _ (by omega) (fun j hj => ?_) (fun hlt => ?_)
  · obtain ⟨h1, h2⟩ := nameLen_in _ _ hj
    refine ⟨by rw [List.length_drop] at h1; omega, ?_⟩
    rw [List.getElem_drop] at h2
    exact h2
  · have h1 : nameLen (s.drop a) < (s.drop a).length := by rw [List.length_drop]; omega
    have := nameLen_out _ h1
    rw [List.getElem_drop] at this
    exact this

end Go.Proofs.Ytplbdlgmjehckab
