/-
  The document's answer: Parse.
-/
import Derived.Test.YtplbdlgmjehckaaRfItems
import Derived.Test.YtplbdlgmjehckaaPgParse
namespace Go.Proofs.Ytplbdlgmjehckaa
open Go.RowKit
set_option linter.unusedVariables false
set_option linter.unusedSimpArgs false

/-- the result's block, written once, behind a walk that left it alone -/
theorem rf_put {w wx : World} {b : Nat} (h0 : wx.heap[b]? = some (.cells #[.int .i64 0, .int .i64 0] 25 (0, 0))) (hk : Kept (fun _ => False) w wx) (hb : w.heap.size ≤ b) (x y : Value) :
    ((wx.setCell ⟨b, 0, none⟩ x).setCell ⟨b, 1, none⟩ y).cell? ⟨b, 0, none⟩ = some x ∧ ((wx.setCell ⟨b, 0, none⟩ x).setCell ⟨b, 1, none⟩ y).cell? ⟨b, 1, none⟩ = some y ∧
      Kept (fun _ => False) w ((wx.setCell ⟨b, 0, none⟩ x).setCell ⟨b, 1, none⟩ y) := by
  have h1 := setIn (setIn h0 0 x) 1 y
  exact ⟨cellIn h1 0 rfl, cellIn h1 1 rfl, (hk.setCell (.inr hb) _).setCell (.inr hb) _⟩
theorem attrs_past1 {w w' : World} {b f : Nat} {t2 : TypeId} {v : Value} {al : List PAttr} (hf : w.heap[f]? = some (.cells #[.int .i64 0, .int .i64 0] t2 (0, 0)))
    (hk : Kept (fun k => k = b ∨ k = f) w w') (h : AttrsAt w v al) (hv : ∀ k, v.ownBlock = some k → k ≠ b) : AttrsAt w' v al := by
  obtain ⟨a, cap, rfl, h1, h2, h3⟩ := h
  refine ⟨a, cap, rfl, h1, h2, fun hne => ?_⟩
  obtain ⟨c, off, rfl, h4⟩ := h3 hne
  have hb : ¬ (c = b ∨ c = f) := by
    rintro (rfl | rfl)
    · exact hv c rfl rfl
    · cases al with
      | nil => exact absurd rfl hne
      | cons a al =>
        have h5 := h4 0 (attrCells a) rfl 0 (.string (str a.name)) rfl
        rw [cell_of_row w c _ _ _ _ hf] at h5
        match off, h5 with
        | 0, h5 => simp at h5
        | 1, h5 => simp at h5
        | n + 2, h5 => simp at h5
  exact ⟨c, off, rfl, fun i r hr j c hc => hk.cell hb (h4 i r hr j c hc)⟩
theorem nodes_past1 {w w' : World} {base b f : Nat} {t2 : TypeId} {v : Value} {ns : List PNode} (hf : w.heap[f]? = some (.cells #[.int .i64 0, .int .i64 0] t2 (0, 0)))
    (hk : Kept (fun k => k = b ∨ k = f) w w') (h : NodesOwn w base b v ns) (hv : ∀ k, v.ownBlock = some k → ¬ (k = b ∨ k = f)) : NodesAt w' v ns := by
  obtain ⟨avs, h1, h2, h3⟩ := h
  exact ⟨avs, h1, (rowsAt_of_owns zip_rows (by simp [h1]) h2).kept hk hv, fun i n av hn ha => attrs_past1 hf hk (h3 i n av hn ha).1 (fun k hk => ((h3 i n av hn ha).2 k hk).1)⟩

set_option maxRecDepth 100000 in
set_option maxHeartbeats 6400000 in
theorem rparse_any (s : B) (w : World) (hw : 0 < w.heap.size) (hs : s.length ≤ 9223372036854775807) :
    Calls Try.prog 9 #[.string (str s)] w (ParseEnds w (pParse s)) := by
  obtain ⟨r, HR⟩ : ∃ r, Hid (pParse s = r) := ⟨_, rfl⟩
  rw [HR.out]
  obtain ⟨w0, HW0⟩ : ∃ x, Hid (w.alloc (.cells #[.int .i64 0, .int .i64 0] 25 (0, 0)) = x) := ⟨_, rfl⟩
  have HK0 : Hid (Kept (fun _ => False) w w0) := Lib.hid (by rw [← HW0.out]; exact (Kept.refl _ w).alloc _)
  have HF0 : Hid (w0.heap[w.heap.size]? = some (.cells #[.int .i64 0, .int .i64 0] 25 (0, 0))) := Lib.hid (by rw [← HW0.out]; exact newIn w _)
  have hz0 : w0.heap.size = w.heap.size + 1 := by rw [← HW0.out]; simp
  by_cases hl : 6000 < s.length
  · obtain rfl : r = .bad ⟨4, 0⟩ := by rw [← HR.out]; unfold pParse; rw [if_pos hl]
    have hlI : 6000 < (s.length : Int) := by omega
    obtain ⟨q0, q1, q2⟩ := rf_put HF0.out HK0.out (Nat.le_refl _) (.int .i64 4) (.int .i64 0)
    have f0 := freeIn HF0.out 0
    have f1 := freeIn HF0.out 1
    have c0 := cellIn HF0.out 0 rfl
    have c1 := cellIn HF0.out 1 rfl
    go_enter Try.func9, Try.ntmps9
    go_upto_region 1 with fail
    rw [HW0.out]
    go_wp2_with fail
    refine bodyPost_ret (v := .tuple #[.slice none 0 0, .agg #[.int .i64 4, .int .i64 0]]) (by simp [results, Try.results9, go_sem, q0, q1]) rfl ?_
    exact ⟨rfl, q2.below⟩
  · have hE := HR.out
    unfold pParse at hE
    rw [if_neg hl] at hE
    have HE := Lib.hid hE
    clear hE
    have hlI : (s.length : Int) ≤ 6000 := by omega
    obtain ⟨wb, HWB⟩ : ∃ x, Hid (w0.heap.size = x) := ⟨_, rfl⟩
    obtain ⟨w1, HW1⟩ : ∃ x, Hid (w0.alloc (.cells #[.string (str s), .int .i64 0, .int .i64 0, .int .i64 0, .slice none 0 0] 54 (0, 0)) = x) := ⟨_, rfl⟩
    have hwk : WkAt w1 wb s 0 good (.slice none 0 0) := by
      rw [← HW1.out, ← HWB.out]
      exact ⟨newIn w0 _, Nat.zero_le _, by omega⟩
    have hk1 : Kept (fun _ => False) w w1 := by rw [← HW1.out]; exact HK0.out.alloc _
    have hz1 : w1.heap.size = w0.heap.size + 1 := by rw [← HW1.out]; simp
    have hwbe : wb = w.heap.size + 1 := by rw [← HWB.out]; exact hz0
    have hw1s : w1.heap.size = w.heap.size + 2 := by omega
    have hst : Wk w1 (wb + 1) wb s 0 (.slice none 0 0) [] := ⟨hwk, ⟨[], rfl, ⟨rfl, .inl ⟨rfl, rfl⟩⟩, fun i n av hn => by simp at hn⟩, by omega, by omega, by simp, by omega⟩
    have HC := ritems_any s (wb + 1) wb (s.length + 1) (-1) 1 [] 0 (.slice none 0 0) w1 (by omega) (by omega) hst
    rw [List.drop_zero] at HC
    obtain ⟨ans, HANS⟩ : ∃ x, Hid (pItems (s.length + 1) (-1) 1 [] s 0 = x) := ⟨_, rfl⟩
    rw [HANS.out] at HC
    have hE := HE.out
    rw [HANS.out] at hE
    replace HE := Lib.hid hE
    have HC2 : Hid (Calls Try.prog 21 #[.pointer (some ⟨wb, 0, none⟩), .int .i64 (-1), .int .i64 1] w1 fun e w' => e = .returned (.tuple #[]) ∧ Kept (· = wb) w1 w' ∧ ∃ (f : Flt) (a : Nat) (v : Value) (ns : List PNode), WkAt w' wb s a f v ∧
      (f.err = 0 → f = good ∧ NodesOwn w' (wb + 1) wb v ns ∧ ans = .ok (ns, s.drop a, a)) ∧ (f.err ≠ 0 → ans = .bad f)) := Lib.hid (by
      refine HC.mono ?_
      clear HC hE
      intro e w' hh
      cases ans with
      | bad f0 =>
        obtain ⟨rfl, hk, a, v, h⟩ := hh
        have hfe : f0.err ≠ 0 := nb_items _ _ _ _ _ _ _ HANS.out
        exact ⟨rfl, hk.mono (fun k _ hs => hs.elim id (fun h => by cases h)), f0, a, v, [], h, fun h0 => absurd h0 hfe, fun _ => rfl⟩
      | ok y =>
        obtain ⟨ns', l', a'⟩ := y
        obtain ⟨v', rfl, hk, h, rfl, _⟩ := hh
        exact ⟨rfl, hk.mono (fun k _ hs => hs.elim id (fun h => by cases h)), good, a', v', ns', h.rd, fun _ => ⟨rfl, h.nodes, rfl⟩, fun h0 => absurd rfl h0⟩)
    have HW1S := Lib.hid hw1s
    clear hw1s HC hst
    have HF1 : Hid (w1.heap[w.heap.size]? = some (.cells #[.int .i64 0, .int .i64 0] 25 (0, 0))) := Lib.hid (by rw [← HW1.out]; exact oldIn HF0.out _)
    have HK1 := Lib.hid hk1
    clear hwk hk1 hE
    go_enter Try.func9, Try.ntmps9
    go_upto_region 1 with fail
    rw [HW0.out]
    go_upto_region 4 with fail
    rw [HW1.out, ← hwbe]
    have HWBE := Lib.hid hwbe
    clear hz0 hz1 hwbe
    go_wp2_with fail
    refine HC2.out.mono ?_
    rintro e w2 ⟨rfl, hk2, f, a, v, ns, h2, hg2, hb2⟩
    have hwbe := HWBE.out
    have hw1s := HW1S.out
    have HF2 : Hid (w2.heap[w.heap.size]? = some (.cells #[.int .i64 0, .int .i64 0] 25 (0, 0))) := Lib.hid (hk2.heap (by omega) HF1.out)
    have HK2 : Hid (Kept (fun _ => False) w w2) := Lib.hid (HK1.out.trans' hk2 (fun k hk hs => by omega))
    have HNE : Hid (¬ w.heap.size = wb) := Lib.hid (by omega)
    have HLE : Hid (w.heap.size ≤ wb) := Lib.hid (by omega)
    have HIN : Hid (f.err = 0 → ∀ wx, Kept (fun k => k = wb ∨ k = w.heap.size) w2 wx → NodesAt wx v ns) := Lib.hid (fun hf wx hk => by
      obtain ⟨_, hn, _⟩ := hg2 hf
      obtain ⟨avs, h1, h3, h4⟩ := hn
      exact nodes_past1 HF2.out hk ⟨avs, h1, h3, h4⟩ (fun k hk' hs => by have := (h3.lt k hk').1; omega))
    have HG2 : Hid (f.err = 0 → f = good ∧ ans = .ok (ns, s.drop a, a)) := Lib.hid (fun hf => ⟨(hg2 hf).1, (hg2 hf).2.2⟩)
    have HB2 := Lib.hid hb2
    have H2 := Lib.hid h2
    have c1 := h2.c1
    have c4 := h2.c4
    have hla := h2.2.1
    clear hk2 h2 hg2 hb2 hwbe hw1s
    go_upto_region 5 with fail
    go_cut [24] (fun c wx => wx = w2 ∧ c = .bool (decide (f.err = 0 ∧ a < s.length)))
    case first =>
      by_cases hf : f.err = 0
      · obtain rfl := (HG2.out hf).1
        by_cases hend : a < s.length
        · have hc : decide (good.err = 0 ∧ a < s.length) = true := by simp [good, hend]
          go_wp2_with (go_at_call 22; refine (ok_is true _ _ _ _ _ _ H2.out rfl).mono ?_; rintro e w3 ⟨rfl, rfl⟩)
          go_meet
          case rel => exact ⟨rfl, by rw [hc]⟩
        · have hc : decide (good.err = 0 ∧ a < s.length) = false := by simp [good]; omega
          go_wp2_with (go_at_call 22; refine (ok_is true _ _ _ _ _ _ H2.out rfl).mono ?_; rintro e w3 ⟨rfl, rfl⟩)
          go_meet
          case rel => exact ⟨rfl, by rw [hc]⟩
      · have hc : decide (f.err = 0 ∧ a < s.length) = false := by simp [hf]
        have hf' : ((f.err : Int) == 0) = false := by simp; omega
        go_wp2_with (go_at_call 22; refine (ok_is false _ _ _ _ _ _ H2.out hf').mono ?_; rintro e w3 ⟨rfl, rfl⟩)
        go_meet
        case rel => exact ⟨rfl, by rw [hc]⟩
    case rest =>
      obtain ⟨rfl, rfl⟩ := hcut
      go_upto_if 24 with fail
      obtain ⟨w2, hw2⟩ : ∃ x, x = wc := ⟨_, rfl⟩
      subst hw2
      go_cut [] (fun wx => ∃ g, Hid (WkAt wx wb s a g v) ∧ Hid (Kept (· = wb) w2 wx) ∧ (g.err = 0 → f.err = 0 ∧ r = .ok ns) ∧ (g.err ≠ 0 → r = .bad g))
      case first =>
        by_cases hf : f.err = 0
        · obtain ⟨rfl, hok⟩ := HG2.out hf
          have hE := HE.out
          rw [hok] at hE
          simp only [Ans.ok_then] at hE
          by_cases hend : a < s.length
          · have hr : Hid (r = .bad ⟨2, a⟩) := Lib.hid (by rw [← hE, if_neg (fun h => by have := congrArg List.length h; rw [List.length_drop] at this; simp at this; omega)])
            have hc : decide (good.err = 0 ∧ a < s.length) = true := by simp [good, hend]
            rw [hc]
            clear hE hok
            go_wp2_with fail
            refine (stop_good 2 a _ wb s a good _ H2.out rfl).mono ?_
            rintro e w4 ⟨rfl, hk4, h4⟩
            have HK4 := Lib.hid hk4
            have H4 := Lib.hid h4
            clear hk4 h4
            go_wp2_with fail
            go_meet
            case rel => exact ⟨⟨2, a⟩, H4, HK4, fun hh => absurd hh (by simp), fun _ => hr.out⟩
          · have hr : Hid (r = .ok ns) := Lib.hid (by rw [← hE, if_pos (List.drop_of_length_le (by omega))])
            have hc : decide (good.err = 0 ∧ a < s.length) = false := by simp [good]; omega
            rw [hc]
            clear hE hok
            go_wp2_with fail
            go_meet
            case rel => exact ⟨good, H2, Lib.hid (Kept.refl _ _), fun _ => ⟨rfl, hr.out⟩, fun hh => absurd rfl hh⟩
        · have hE := HE.out
          rw [HB2.out hf] at hE
          have hr : Hid (r = .bad f) := Lib.hid (by rw [← hE]; rfl)
          have hc : decide (f.err = 0 ∧ a < s.length) = false := by simp [hf]
          rw [hc]
          clear hE
          go_wp2_with fail
          go_meet
          case rel => exact ⟨f, H2, Lib.hid (Kept.refl _ _), fun hh => absurd hh hf, fun _ => hr.out⟩
      case rest =>
        obtain ⟨g, HG, HKG, hg0, hg1⟩ := hcut
        have HFG : Hid (wc.heap[w.heap.size]? = some (.cells #[.int .i64 0, .int .i64 0] 25 (0, 0))) := Lib.hid (HKG.out.heap HNE.out HF2.out)
        have HKW : Hid (Kept (fun _ => False) w wc) := Lib.hid (HK2.out.trans' HKG.out (fun k hk hs => by have := HLE.out; omega))
        have x0 := cellIn HFG.out 0 rfl
        have x1 := cellIn HFG.out 1 rfl
        have y0 := freeIn HFG.out 0
        have y1 := freeIn HFG.out 1
        clear c1 c4
        by_cases hg : g.err = 0
        · obtain ⟨hf0, hr⟩ := hg0 hg
          subst hr
          obtain ⟨q0, q1, q2⟩ := rf_put HFG.out HKW.out (Nat.le_refl _) (.int .i64 0) (.int .i64 0)
          have HD := Lib.hid (HIN.out hf0 ((wc.setCell ⟨w.heap.size, 0, none⟩ (.int .i64 0)).setCell ⟨w.heap.size, 1, none⟩ (.int .i64 0)) (((HKG.out.mono (T := fun k => k = wb ∨ k = w.heap.size) (fun k _ hk => .inl hk)).setCell (p := ⟨w.heap.size, 0, none⟩) (.inl (.inr rfl)) _).setCell (p := ⟨w.heap.size, 1, none⟩) (.inl (.inr rfl)) _))
          have Q2 := Lib.hid q2
          have c4 := HG.out.c4
          clear hg0 hg1 q2
          go_wp2_with (go_at_call 22; refine (ok_is true _ _ _ _ _ _ HG.out (by simp [hg])).mono ?_; rintro e w3 ⟨rfl, rfl⟩)
          refine bodyPost_ret (v := .tuple #[v, .agg #[.int .i64 0, .int .i64 0]]) (by simp [results, Try.results9, go_sem, q0, q1]) rfl ?_
          exact ⟨_, rfl, Q2.out.below, HD.out⟩
        · have hr := hg1 hg
          subst hr
          have hgf : ((g.err : Int) == 0) = false := by simp; omega
          obtain ⟨q0, q1, q2⟩ := rf_put HFG.out HKW.out (Nat.le_refl _) (.int .i64 (g.err : Int)) (.int .i64 (g.pos : Int))
          have z2 := HG.out.c2
          have z3 := HG.out.c3
          obtain ⟨wf, HWF⟩ : ∃ x, Hid ((wc.setCell ⟨w.heap.size, 0, none⟩ (.int .i64 (g.err : Int))).setCell ⟨w.heap.size, 1, none⟩ (.int .i64 (g.pos : Int)) = x) := ⟨_, Lib.hid rfl⟩
          rw [HWF.out] at q0 q1 q2
          have Q0 := Lib.hid q0
          have Q1 := Lib.hid q1
          have Q2 := Lib.hid q2
          clear hg0 hg1 q0 q1 q2
          go_wp2_with (go_at_call 22; refine (ok_is false _ _ _ _ _ _ HG.out hgf).mono ?_; rintro e w3 ⟨rfl, rfl⟩)
          go_region
          go_wp2_with fail
          rw [HWF.out]
          have p0 : wf.drew.cell? ⟨w.heap.size, 0, none⟩ = some (.int .i64 (g.err : Int)) := Q0.out
          have p1 : wf.drew.cell? ⟨w.heap.size, 1, none⟩ = some (.int .i64 (g.pos : Int)) := Q1.out
          refine bodyPost_ret (v := .tuple #[.slice none 0 0, .agg #[.int .i64 (g.err : Int), .int .i64 (g.pos : Int)]]) (by simp [results, Try.results9, go_sem, p0, p1]) rfl ?_
          exact ⟨rfl, Q2.out.drew.below⟩
end Go.Proofs.Ytplbdlgmjehckaa
