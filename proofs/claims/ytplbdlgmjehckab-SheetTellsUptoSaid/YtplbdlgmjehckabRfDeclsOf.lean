/-
  The document's answer: Decls.
-/
import Derived.Test.YtplbdlgmjehckabRfDecls
import Derived.Test.YtplbdlgmjehckabShParse2
namespace Go.Proofs.Ytplbdlgmjehckab
open Go.RowKit
set_option linter.unusedVariables false
set_option linter.unusedSimpArgs false

/-- the result's block, written once, behind a walk that left it alone -/
theorem rf_put {w wx : World} {b : Nat} (h0 : wx.heap[b]? = some (.cells #[.int .i64 0, .int .i64 0] 26 (0, 0))) (hk : Kept (fun _ => False) w wx) (hb : w.heap.size ≤ b) (x y : Value) :
    ((wx.setCell ⟨b, 0, none⟩ x).setCell ⟨b, 1, none⟩ y).cell? ⟨b, 0, none⟩ = some x ∧ ((wx.setCell ⟨b, 0, none⟩ x).setCell ⟨b, 1, none⟩ y).cell? ⟨b, 1, none⟩ = some y ∧
      Kept (fun _ => False) w ((wx.setCell ⟨b, 0, none⟩ x).setCell ⟨b, 1, none⟩ y) := by
  have h1 := setIn (setIn h0 0 x) 1 y
  exact ⟨cellIn h1 0 rfl, cellIn h1 1 rfl, (hk.setCell (.inr hb) _).setCell (.inr hb) _⟩

set_option maxRecDepth 100000 in
set_option maxHeartbeats 6400000 in
theorem rdeclsOf_any (s : B) (w : World) (hs : s.length ≤ 9223372036854775807) :
    Calls Try.prog 13 #[.string (str s)] w (SDeclsEnds w (sDeclsOf s)) := by
  obtain ⟨r, HR⟩ : ∃ r, Hid (sDeclsOf s = r) := ⟨_, rfl⟩
  rw [HR.out]
  obtain ⟨w0, HW0⟩ : ∃ x, Hid (w.alloc (.cells #[.int .i64 0, .int .i64 0] 26 (0, 0)) = x) := ⟨_, rfl⟩
  have HK0 : Hid (Kept (fun _ => False) w w0) := Lib.hid (by rw [← HW0.out]; exact (Kept.refl _ w).alloc _)
  have HF0 : Hid (w0.heap[w.heap.size]? = some (.cells #[.int .i64 0, .int .i64 0] 26 (0, 0))) := Lib.hid (by rw [← HW0.out]; exact newIn w _)
  have hz0 : w0.heap.size = w.heap.size + 1 := by rw [← HW0.out]; simp
  by_cases hl : 4000 < s.length
  · obtain rfl : r = .bad ⟨4, 0⟩ := by rw [← HR.out]; unfold sDeclsOf; rw [if_pos hl]
    have hlI : 4000 < (s.length : Int) := by omega
    obtain ⟨q0, q1, q2⟩ := rf_put HF0.out HK0.out (Nat.le_refl _) (.int .i64 4) (.int .i64 0)
    have f0 := freeIn HF0.out 0
    have f1 := freeIn HF0.out 1
    have c0 := cellIn HF0.out 0 rfl
    have c1 := cellIn HF0.out 1 rfl
    go_enter Try.func13, Try.ntmps13
    go_upto_region 1 with fail
    rw [HW0.out]
    go_wp2_with fail
    refine bodyPost_ret (v := .tuple #[.slice none 0 0, .agg #[.int .i64 4, .int .i64 0]]) (by simp [results, Try.results13, go_sem, q0, q1]) rfl ?_
    exact ⟨rfl, q2.below⟩
  · have hE := HR.out
    unfold sDeclsOf at hE
    rw [if_neg hl] at hE
    have HE := Lib.hid hE
    clear hE
    have hlI : (s.length : Int) ≤ 4000 := by omega
    obtain ⟨wb, HWB⟩ : ∃ x, Hid (w0.heap.size = x) := ⟨_, rfl⟩
    obtain ⟨w1, HW1⟩ : ∃ x, Hid (w0.alloc (.cells #[.string (str s), .int .i64 0, .int .i64 0, .int .i64 0, .slice none 0 0] 55 (0, 0)) = x) := ⟨_, rfl⟩
    have hwk : WkAt w1 wb s 0 good (.slice none 0 0) := by
      rw [← HW1.out, ← HWB.out]
      exact ⟨newIn w0 _, Nat.zero_le _, by omega⟩
    have hk1 : Kept (fun _ => False) w w1 := by rw [← HW1.out]; exact HK0.out.alloc _
    have hz1 : w1.heap.size = w0.heap.size + 1 := by rw [← HW1.out]; simp
    have HC := rdecls_gen w1 wb s 0 good _ hwk (fun _ => rfl)
    rw [List.drop_zero] at HC
    have hwbe : wb = w.heap.size + 1 := by rw [← HWB.out]; exact hz0
    have hw1s : w1.heap.size = w.heap.size + 2 := by omega
    have HW1S := Lib.hid hw1s
    clear hw1s
    have HF1 : Hid (w1.heap[w.heap.size]? = some (.cells #[.int .i64 0, .int .i64 0] 26 (0, 0))) := Lib.hid (by rw [← HW1.out]; exact oldIn HF0.out _)
    have HK1 := Lib.hid hk1
    replace HC := Lib.hid HC
    clear hwk hk1
    go_enter Try.func13, Try.ntmps13
    go_upto_region 1 with fail
    rw [HW0.out]
    go_upto_region 4 with fail
    rw [HW1.out, ← hwbe]
    have HWBE := Lib.hid hwbe
    clear hz0 hz1 hwbe
    go_wp2_with fail
    refine HC.out.mono ?_
    rintro e w2 ⟨l, ds, f, a, rfl, hk2, h2, hg2, hown, hfew, hs2⟩
    obtain ⟨lo, lc, rfl⟩ := decl_slice hown
    have hwbe := HWBE.out
    have hw1s := HW1S.out
    have HIN : Hid (∀ wx, Kept (fun k => k = wb ∨ k = w.heap.size) w2 wx → DeclsIn wx (fun k => k < w.heap.size) (.slice lo ds.length lc) ds) := Lib.hid (fun wx hk => by
      have hr := rowsAt_of_owns decl_rows (by simp) hown
      have hb : ∀ k, (Value.slice lo ds.length lc).ownBlock = some k → w1.heap.size ≤ k ∧ k < w2.heap.size := fun k hk => hown.lt k hk
      exact ⟨hr.kept hk (fun k hk' hs => by have := (hb k hk').1; omega), fun k hk' => ⟨by have := (hb k hk').1; omega, Nat.lt_of_lt_of_le (hb k hk').2 hk.size⟩⟩)
    have HF2 : Hid (w2.heap[w.heap.size]? = some (.cells #[.int .i64 0, .int .i64 0] 26 (0, 0))) := Lib.hid (hk2.heap (by omega) HF1.out)
    have HK2 : Hid (Kept (fun _ => False) w w2) := Lib.hid (HK1.out.trans' hk2 (fun k hk hs => by omega))
    have HNE : Hid (¬ w.heap.size = wb) := Lib.hid (by omega)
    have HLE : Hid (w.heap.size ≤ wb) := Lib.hid (by omega)
    have H2 := Lib.hid h2
    have c1 := h2.c1
    have hla := h2.2.1
    have HS2 := hs2
    clear hk2 h2 hown hs2 hwbe hw1s
    go_upto_region 5 with fail
    go_cut [25] (fun c wx => wx = w2 ∧ c = .bool (decide (f.err = 0 ∧ a < s.length)))
    case first =>
      by_cases hf : f.err = 0
      · obtain rfl := hg2 hf
        by_cases hend : a < s.length
        · have hc : decide (good.err = 0 ∧ a < s.length) = true := by simp [good, hend]
          go_wp2_with (go_at_call 23; refine (ok_is true _ _ _ _ _ _ H2.out rfl).mono ?_; rintro e w3 ⟨rfl, rfl⟩)
          go_meet
          case rel => exact ⟨rfl, by rw [hc]⟩
        · have hc : decide (good.err = 0 ∧ a < s.length) = false := by simp [good]; omega
          go_wp2_with (go_at_call 23; refine (ok_is true _ _ _ _ _ _ H2.out rfl).mono ?_; rintro e w3 ⟨rfl, rfl⟩)
          go_meet
          case rel => exact ⟨rfl, by rw [hc]⟩
      · have hc : decide (f.err = 0 ∧ a < s.length) = false := by simp [hf]
        have hf' : ((f.err : Int) == 0) = false := by simp; omega
        go_wp2_with (go_at_call 23; refine (ok_is false _ _ _ _ _ _ H2.out hf').mono ?_; rintro e w3 ⟨rfl, rfl⟩)
        go_meet
        case rel => exact ⟨rfl, by rw [hc]⟩
    case rest =>
      obtain ⟨rfl, rfl⟩ := hcut
      go_upto_if 25 with fail
      obtain ⟨w2, hw2⟩ : ∃ x, x = wc := ⟨_, rfl⟩
      subst hw2
      go_cut [] (fun wx => ∃ g, Hid (WkAt wx wb s a g (.slice none 0 0)) ∧ Hid (Kept (· = wb) w2 wx) ∧ (g.err = 0 → r = .ok ds) ∧ (g.err ≠ 0 → r = .bad g))
      case first =>
        by_cases hf : f.err = 0
        · obtain rfl := hg2 hf
          have hok : sDecls s 0 = .ok (ds, s.drop a, a) := by
            rcases HS2.out.2 rfl with ⟨_, h⟩ | ⟨h, _⟩
            · exact h
            · exact absurd rfl h
          have hE := HE.out
          rw [hok] at hE
          simp only [Ans.ok_then] at hE
          by_cases hend : a < s.length
          · have hr : Hid (r = .bad ⟨2, a⟩) := Lib.hid (by rw [← hE, if_neg (fun h => by have := congrArg List.length h; rw [List.length_drop] at this; simp at this; omega)])
            have hc : decide (good.err = 0 ∧ a < s.length) = true := by simp [good, hend]
            rw [hc]
            clear hE hok
            go_wp2_with fail
            refine (stop_good 2 a _ wb s a good _ H2.out rfl).mono ?_
            rintro e w4 ⟨rfl, hk4, h4⟩
            have HK4 := Lib.hid hk4
            have H4 := Lib.hid h4
            clear hk4 h4
            go_wp2_with fail
            go_meet
            case rel => exact ⟨⟨2, a⟩, H4, HK4, fun hh => absurd hh (by simp), fun _ => hr.out⟩
          · have hr : Hid (r = .ok ds) := Lib.hid (by rw [← hE, if_pos (List.drop_of_length_le (by omega))])
            have hc : decide (good.err = 0 ∧ a < s.length) = false := by simp [good]; omega
            rw [hc]
            clear hE hok
            go_wp2_with fail
            go_meet
            case rel => exact ⟨good, H2, Lib.hid (Kept.refl _ _), fun _ => hr.out, fun hh => absurd rfl hh⟩
        · have hbad : sDecls s 0 = .bad f := by
            rcases HS2.out.2 rfl with ⟨h, _⟩ | ⟨_, h⟩
            · exact absurd h hf
            · exact h
          have hE := HE.out
          rw [hbad] at hE
          have hr : Hid (r = .bad f) := Lib.hid (by rw [← hE]; rfl)
          have hc : decide (f.err = 0 ∧ a < s.length) = false := by simp [hf]
          rw [hc]
          clear hE hbad
          go_wp2_with fail
          go_meet
          case rel => exact ⟨f, H2, Lib.hid (Kept.refl _ _), fun hh => absurd hh hf, fun _ => hr.out⟩
      case rest =>
        obtain ⟨g, HG, HKG, hg0, hg1⟩ := hcut
        have HFG : Hid (wc.heap[w.heap.size]? = some (.cells #[.int .i64 0, .int .i64 0] 26 (0, 0))) := Lib.hid (HKG.out.heap HNE.out HF2.out)
        have HKW : Hid (Kept (fun _ => False) w wc) := Lib.hid (HK2.out.trans' HKG.out (fun k hk hs => by have := HLE.out; omega))
        have x0 := cellIn HFG.out 0 rfl
        have x1 := cellIn HFG.out 1 rfl
        have y0 := freeIn HFG.out 0
        have y1 := freeIn HFG.out 1
        clear c1
        by_cases hg : g.err = 0
        · have hr := hg0 hg
          subst hr
          obtain ⟨q0, q1, q2⟩ := rf_put HFG.out HKW.out (Nat.le_refl _) (.int .i64 0) (.int .i64 0)
          have HD := Lib.hid (HIN.out ((wc.setCell ⟨w.heap.size, 0, none⟩ (.int .i64 0)).setCell ⟨w.heap.size, 1, none⟩ (.int .i64 0)) (((HKG.out.mono (T := fun k => k = wb ∨ k = w.heap.size) (fun k _ hk => .inl hk)).setCell (p := ⟨w.heap.size, 0, none⟩) (.inl (.inr rfl)) _).setCell (p := ⟨w.heap.size, 1, none⟩) (.inl (.inr rfl)) _))
          have Q2 := Lib.hid q2
          clear hg0 hg1 q2
          go_wp2_with (go_at_call 23; refine (ok_is true _ _ _ _ _ _ HG.out (by simp [hg])).mono ?_; rintro e w3 ⟨rfl, rfl⟩)
          refine bodyPost_ret (v := .tuple #[.slice lo ds.length lc, .agg #[.int .i64 0, .int .i64 0]]) (by simp [results, Try.results13, go_sem, q0, q1]) rfl ?_
          exact ⟨_, rfl, Q2.out.below, HD.out⟩
        · have hr := hg1 hg
          subst hr
          have hgf : ((g.err : Int) == 0) = false := by simp; omega
          obtain ⟨q0, q1, q2⟩ := rf_put HFG.out HKW.out (Nat.le_refl _) (.int .i64 (g.err : Int)) (.int .i64 (g.pos : Int))
          have z2 := HG.out.c2
          have z3 := HG.out.c3
          obtain ⟨wf, HWF⟩ : ∃ x, Hid ((wc.setCell ⟨w.heap.size, 0, none⟩ (.int .i64 (g.err : Int))).setCell ⟨w.heap.size, 1, none⟩ (.int .i64 (g.pos : Int)) = x) := ⟨_, Lib.hid rfl⟩
          rw [HWF.out] at q0 q1 q2
          have Q0 := Lib.hid q0
          have Q1 := Lib.hid q1
          have Q2 := Lib.hid q2
          clear hg0 hg1 q0 q1 q2
          go_wp2_with (go_at_call 23; refine (ok_is false _ _ _ _ _ _ HG.out hgf).mono ?_; rintro e w3 ⟨rfl, rfl⟩)
          go_region
          go_wp2_with fail
          rw [HWF.out]
          have p0 : wf.drew.cell? ⟨w.heap.size, 0, none⟩ = some (.int .i64 (g.err : Int)) := Q0.out
          have p1 : wf.drew.cell? ⟨w.heap.size, 1, none⟩ = some (.int .i64 (g.pos : Int)) := Q1.out
          refine bodyPost_ret (v := .tuple #[.slice none 0 0, .agg #[.int .i64 (g.err : Int), .int .i64 (g.pos : Int)]]) (by simp [results, Try.results13, go_sem, p0, p1]) rfl ?_
          exact ⟨rfl, Q2.out.drew.below⟩
end Go.Proofs.Ytplbdlgmjehckab
