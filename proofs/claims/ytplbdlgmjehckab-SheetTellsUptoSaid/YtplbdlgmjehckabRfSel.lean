/-
  The document's answer: a selector.
-/
import Derived.Test.YtplbdlgmjehckabRfTests
import Derived.Test.YtplbdlgmjehckabShSel
namespace Go.Proofs.Ytplbdlgmjehckab
open Go.RowKit
set_option linter.unusedVariables false
set_option linter.unusedSimpArgs false

theorem RTLoop.tests {w w' : World} {b : Nat} {s : B} {v l : Value} {ts : List PTest} {f : Flt} {p : Nat} (h : RTLoop w w' b s v l ts f p) : TestsIn w' (fun k => k < w.heap.size) l ts :=
  ⟨rowsAt_of_owns test_rows (by simp) h.own, fun k hk => ⟨by have := (h.own.lt k hk).1; omega, (h.own.lt k hk).2⟩⟩
theorem then_then {α β γ : Type} (A : Ans α) (f : α → Ans β) (g : β → Ans γ) : (A.then f).then g = A.then fun x => (f x).then g := by
  cases A <;> rfl
/-- what follows a part's tests -/
def kPart (n : Nat) (ps : List PPart) (j : Int) (y : List PTest × B × Nat) : Ans (PSel × B × Nat) := sSelL n (ps ++ [⟨j, y.1⟩]) y.2.1 y.2.2
/-- what follows a join -/
def kSel (n : Nat) (ps : List PPart) (j : Int) (y : B × Nat) : Ans (PSel × B × Nat) :=
  if ps.length = 6 then .bad ⟨5, y.2⟩ else (sTests y.1 y.2).then (kPart n ps j)
/-- what follows the gap ahead of a join -/
def kJoin (n : Nat) (ps : List PPart) (a : Nat) (x : B × Nat) : Ans (PSel × B × Nat) :=
  if ([62] : B).isPrefixOf x.1 then (sGap (x.1.drop 1) (x.2 + 1)).then (kSel n ps 2)
  else if ([43] : B).isPrefixOf x.1 then (sGap (x.1.drop 1) (x.2 + 1)).then (kSel n ps 3)
  else if selEnds (decide (a < x.2)) x.1 then .ok (ps, x.1, x.2) else kSel n ps 1 (x.1, x.2)
theorem selL_eq (n : Nat) (ps : List PPart) (l : B) (a : Nat) : sSelL (n + 1) ps l a = (sGap l a).then (kJoin n ps a) := by
  rw [sSelL]
  unfold sJoin
  cases sGap l a with
  | bad f => rfl
  | ok x =>
    obtain ⟨l1, a1⟩ := x
    simp only [Ans.ok_then, kJoin]
    split
    · cases sGap (l1.drop 1) (a1 + 1) <;> rfl
    · split
      · cases sGap (l1.drop 1) (a1 + 1) <;> rfl
      · split <;> rfl
/-- what stands at the head of the loop over a selector's parts -/
structure RSLoop (w wr : World) (b : Nat) (s : B) (v : Value) (l : Value) (ps : List PPart) (vs : List Value) (f : Flt) (p : Nat) : Prop where
  rd : WkAt wr b s p f v
  kept : Kept (· = b) w wr
  al : f.err = 0 → f = good
  own : PartOwn wr w.heap.size l ps vs
  few : ps.length ≤ 6
theorem RSLoop.step {w wr wx : World} {b : Nat} {s : B} {v l : Value} {ps : List PPart} {vs : List Value} {f f' : Flt} {p p' : Nat} (h : RSLoop w wr b s v l ps vs f p) (hb : b < w.heap.size) (hk : Kept (· = b) wr wx) (hr : WkAt wx b s p' f' v) (ha : f'.err = 0 → f' = good) : RSLoop w wx b s v l ps vs f' p' :=
  ⟨hr, h.kept.trans hk, ha, h.own.kept part_lasts hb hk, h.few⟩
theorem gap_low {s : B} {p p' : Nat} {f : Flt} (h : Step good (sGap (s.drop p) p) f (s.drop p', p')) (hf : f.err = 0) : p ≤ p' := by
  rcases h.2 rfl with ⟨_, h⟩ | ⟨h, _⟩
  · obtain ⟨g, _, _, h, _⟩ := gap_loc h; omega
  · exact absurd hf h

theorem on_words (w : World) (b : Nat) (s : B) (a : Nat) (f : Flt) (v : Value) (h : WkAt w b s a f v) : ∃ X : ByteArray → Bool,
    Hid (∀ q : ByteArray, q.size ≤ 100 → Calls Try.prog 37 #[.pointer (some ⟨b, 0, none⟩), .string q] w fun e w' => e = .returned (.bool (X q)) ∧ ∃ n, w' = w.drewN n) ∧
    Hid (∀ (m : Nat) (q : ByteArray), q.size ≤ 100 → Calls Try.prog 37 #[.pointer (some ⟨b, 0, none⟩), .string q] (w.drewN m) fun e w' => e = .returned (.bool (X q)) ∧ ∃ n, w' = (w.drewN m).drewN n) ∧
    Hid (f.err = 0 → ∀ q : ByteArray, X q = q.data.toList.isPrefixOf (s.drop a)) := by
  have key : ∀ (w : World), WkAt w b s a f v → ∀ q : ByteArray, q.size ≤ 100 → Calls Try.prog 37 #[.pointer (some ⟨b, 0, none⟩), .string q] w fun e w' => e = .returned (.bool (decide (f.err = 0) && q.data.toList.isPrefixOf (s.drop a))) ∧ ∃ n, w' = w.drewN n := by
    intro w h q hq
    have hs : str q.data.toList = q := by cases q; rfl
    by_cases hf : f.err = 0
    · have := on_good q.data.toList _ w b s a f v h hf (by simpa using hq) rfl
      rw [hs] at this
      simpa [hf] using this
    · have := on_dead q.data.toList w b s a f v h hf
      rw [hs] at this
      simpa [hf] using this
  exact ⟨_, Lib.hid (key w h), Lib.hid (fun m => key _ (h.drewN m)), Lib.hid (fun hf q => by simp [hf])⟩

set_option maxRecDepth 100000 in
set_option maxHeartbeats 6400000 in
theorem rsel_gen (w : World) (b : Nat) (s : B) (a : Nat) (f0 : Flt) (v : Value) (h : WkAt w b s a f0 v) (hg : f0.err = 0 → f0 = good) :
    Calls Try.prog 41 #[.pointer (some ⟨b, 0, none⟩)] w fun e w' => ∃ (l : Value) (ps : List PPart) (f' : Flt) (a' : Nat), e = .returned l ∧ Kept (· = b) w w' ∧ WkAt w' b s a' f' v ∧ (f'.err = 0 → f' = good) ∧ PartsIn w' (fun k => k < w.heap.size) l ps ∧ ps.length ≤ 6 ∧ Hid (Step f0 (sSel (s.drop a) a) f' (ps, s.drop a', a')) := by
  obtain ⟨R, HR⟩ : ∃ R, Hid (sSel (s.drop a) a = R) := ⟨_, Lib.hid rfl⟩
  rw [HR.out]
  have H := Lib.hid h
  have hbw : b < w.heap.size := h.lt
  have hls := h.2.2
  have HG := Lib.hid hg
  obtain ⟨i0, hi0, hz0, hz1, hz2⟩ := info_parts info_part
  clear h hg
  go_enter Try.func41, Try.ntmps41
  go_wp2_with fail
  refine (rtests_gen _ b s a f0 v H.out HG.out).mono ?_
  rintro e w1 ⟨l1, ts1, f1, p1, rfl, hl1, hs1⟩
  have HM1 : Hid (Mid f0 R f1 (sSelL ((s.drop p1).length + 1) [⟨0, ts1⟩] (s.drop p1) p1)) := Lib.hid (by
    have := Mid.start (sSel (s.drop a) a) f0
    rw [HR.out] at this
    exact (this.eq (Y := (sTests (s.drop a) a).then fun y => sSelL (y.2.1.length + 1) [⟨0, y.1⟩] y.2.1 y.2.2) (fun _ => by rw [← HR.out]; rfl)).step hs1.out)
  obtain ⟨lo1, lc1, rfl⟩ := row3_slice hl1.own
  have HT1 := Lib.hid hl1.tests
  have HL1 := Lib.hid hl1
  have hw1 : w.heap.size ≤ w1.heap.size := hl1.kept.size
  clear hl1 hs1
  go_upto_block 0 with fail
  have HS1 : Hid (RSLoop w (w1.alloc (.cells #[.int .i64 0, .slice lo1 ts1.length lc1] 75 (0, 0))) b s v (.slice (some ⟨w1.heap.size, 0, none⟩) 1 1) [⟨0, ts1⟩] [.slice lo1 ts1.length lc1] f1 p1) :=
    Lib.hid ⟨HL1.out.rd.alloc _, HL1.out.kept.alloc _, HL1.out.al, first_part (b := b) hw1 HT1.out, by simp⟩
  have hp1 := HL1.out.rd.2.1
  clear HL1 HT1
  generalize (w1.alloc (.cells #[.int .i64 0, .slice lo1 ts1.length lc1] 75 (0, 0))) = wa at *
  go_cut [3] (fun l wx => ∃ (ps : List PPart) (vs : List Value) (f : Flt) (p : Nat), Hid (RSLoop w wx b s v l ps vs f p) ∧ Hid (Mid f0 R f (.ok (ps, s.drop p, p))))
  case rest =>
    obtain ⟨ps, vs, f, p, HL, HM⟩ := hcut
    go_wp2_with fail
    go_ret
    have HSF : Hid (Step f0 R f (ps, s.drop p, p)) := Lib.hid (Mid.fin HM.out)
    exact ⟨_, ps, f, p, rfl, HL.out.kept, HL.out.rd, HL.out.al, HL.out.own.done partCells_len part_lasts, HL.out.few, HSF⟩
  case first =>
    go_wp2_with fail
    go_loopg [3] (s.length - p1 + 1) (fun k l wr => ∃ (ps : List PPart) (vs : List Value) (f : Flt) (p n : Nat), Hid (RSLoop w wr b s v l ps vs f p) ∧ Hid (Mid f0 R f (sSelL n ps (s.drop p) p)) ∧ (f.err = 0 → s.length - p < n ∧ k = s.length - p + 1))
    case atStart => exact ⟨_, _, f1, p1, _, HS1, HM1, fun hf => ⟨by rw [List.length_drop]; omega, rfl⟩⟩
    case round =>
      obtain ⟨ps, vs, f, p, n, HL, HM, hal⟩ := hrel
      obtain ⟨lo, lc, rfl⟩ := HL.out.own.form
      have hfew := HL.out.few
      by_cases hf : f.err = 0
      · obtain rfl := HL.out.al hf
        obtain ⟨hn, hk⟩ := hal rfl
        clear hal hf
        obtain ⟨n, rfl⟩ : ∃ m, n = m + 1 := ⟨n - 1, by omega⟩
        have hlp := HL.out.rd.2.1
        have HMG : Hid (Mid f0 R good ((sGap (s.drop p) p).then (kJoin n ps p))) := Lib.hid (HM.out.eq (fun _ => selL_eq n ps (s.drop p) p))
        go_wp2_with fail
        refine (ok_is true _ b s p good v HL.out.rd rfl).mono ?_
        rintro e w2 ⟨rfl, hw2⟩
        rw [hw2]
        clear hw2
        go_wp2_with fail
        refine (rblank_gen _ b s p good v HL.out.rd (fun _ => rfl)).mono ?_
        rintro e w3 ⟨f3, p3, rfl, hk3, h3, hg3, hs3⟩
        have HM3 := Lib.hid (HMG.out.step (k := kJoin n ps p) hs3.out)
        have HP3 : Hid (f3.err = 0 → p ≤ p3) := Lib.hid (fun hh => gap_low hs3.out hh)
        have HK3 := Lib.hid hk3
        have H3 := Lib.hid h3
        have HG3 := Lib.hid hg3
        have hl3 := h3.2.1
        clear hk3 h3 hg3 hs3 HMG HM
        obtain ⟨gb, HGB⟩ : ∃ g, Hid (decide (p < p3) = g) := ⟨_, Lib.hid rfl⟩
        rw [HGB.out]
        go_wp2_with fail
        refine (eat_gen [62] _ b s p3 f3 v H3.out (by decide) (by simp)).mono ?_
        rintro e w4 ⟨x4, rfl, hk4, p4, h4, hx1, hx2⟩
        have HK4 := Lib.hid (HK3.out.trans hk4)
        have H4 := Lib.hid h4
        clear hk4 h4
        go_upto_if 15 with fail
        go_cut [5] (fun jv wx => ∃ (j : Int) (jb : Bool) (p4 : Nat), jv = .int .i64 j ∧ ((j != 1) = jb) ∧ Hid (WkAt wx b s p4 f3 v) ∧ Hid (Kept (· = b) wr wx) ∧ (f3.err = 0 → p ≤ p4) ∧
          ((jb = true ∧ Hid (Mid f0 R f3 ((sGap (s.drop p4) p4).then (kSel n ps j)))) ∨ (jb = false ∧ j = 1 ∧ p4 = p3 ∧ Hid (Mid f0 R f3 (if selEnds gb (s.drop p3) then .ok (ps, s.drop p3, p3) else kSel n ps 1 (s.drop p3, p3))))))
        case first =>
          cases x4 with
          | true =>
            obtain ⟨hf3, hm1, rfl⟩ := hx1 rfl
            have HM4 : Hid (Mid f0 R f3 ((sGap (s.drop (p3 + 1)) (p3 + 1)).then (kSel n ps 2))) := Lib.hid (HM3.out.eq (fun _ => by
              show kJoin n ps p (s.drop p3, p3) = _
              unfold kJoin; rw [if_pos hm1, List.drop_drop]))
            clear hx1 hx2 hm1
            go_wp2_with fail
            go_meet
            case rel => exact ⟨2, true, p3 + 1, rfl, rfl, H4, HK4, fun hh => by have := HP3.out hh; omega, .inl ⟨rfl, HM4⟩⟩
          | false =>
            obtain ⟨rfl, hm1⟩ := hx2 rfl
            have HN1 := Lib.hid hm1
            clear hx1 hx2 hm1
            go_wp2_with fail
            refine (eat_gen [43] _ b s p4 f3 v H4.out (by decide) (by simp)).mono ?_
            rintro e w5 ⟨x5, rfl, hk5, p5, h5, hx1, hx2⟩
            have HK5 := Lib.hid (HK4.out.trans hk5)
            have H5 := Lib.hid h5
            clear hk5 h5
            cases x5 with
            | true =>
              obtain ⟨hf3, hm1, rfl⟩ := hx1 rfl
              have HM4 : Hid (Mid f0 R f3 ((sGap (s.drop (p4 + 1)) (p4 + 1)).then (kSel n ps 3))) := Lib.hid (HM3.out.eq (fun _ => by
                show kJoin n ps p (s.drop p4, p4) = _
                unfold kJoin; rw [if_neg (by simp [HN1.out hf3]), if_pos hm1, List.drop_drop]))
              clear hx1 hx2 hm1
              go_wp2_with fail
              go_meet
              case rel => exact ⟨3, true, p4 + 1, rfl, rfl, H5, HK5, fun hh => by have := HP3.out hh; omega, .inl ⟨rfl, HM4⟩⟩
            | false =>
              obtain ⟨rfl, hm1⟩ := hx2 rfl
              have HM4 : Hid (Mid f0 R f3 (if selEnds gb (s.drop p5) then .ok (ps, s.drop p5, p5) else kSel n ps 1 (s.drop p5, p5))) := Lib.hid (HM3.out.eq (fun hh => by
                show kJoin n ps p (s.drop p5, p5) = _
                unfold kJoin; rw [if_neg (by simp [HN1.out hh]), if_neg (by simp [hm1 hh]), ← HGB.out]))
              clear hx1 hx2 hm1
              go_wp2_with fail
              go_meet
              case rel => exact ⟨1, false, p5, rfl, rfl, H5, HK5, HP3.out, .inr ⟨rfl, rfl, rfl, HM4⟩⟩
        case rest =>
          obtain ⟨j, jb, p4, rfl, hjb, H4, HK4, hp4, hj⟩ := hcut
          clear HM3 HK3 H3 HP3
          have hl4 := H4.out.2.1
          have c0 := H4.out.c0
          have c1 := H4.out.c1
          obtain ⟨w4, hw4⟩ : ∃ x, x = wc := ⟨_, rfl⟩
          subst hw4
          go_upto_if 19 with fail
          go_cut [] (fun wx => ∃ (f5 : Flt) (p5 : Nat), Hid (WkAt wx b s p5 f5 v) ∧ Hid (Kept (· = b) wr wx) ∧ (f5.err = 0 → f5 = good) ∧ (f5.err = 0 → p ≤ p5) ∧ Hid (Mid f0 R f5 (kSel n ps j (s.drop p5, p5))))
          case first =>
            rcases hj with ⟨rfl, HM4⟩ | ⟨rfl, rfl, rfl, HM4⟩
            · go_wp2_with fail
              refine (rblank_gen _ b s p4 f3 v H4.out HG3.out).mono ?_
              rintro e w5 ⟨f5, p5, rfl, hk5, h5, hg5, hs5⟩
              have HM5 := Lib.hid (HM4.out.step (k := kSel n ps j) hs5.out)
              have HK5 := Lib.hid (HK4.out.trans hk5)
              have H5 := Lib.hid h5
              have hp5 : f5.err = 0 → p ≤ p5 := fun hh => by
                by_cases h3 : f3.err = 0
                · obtain rfl := HG3.out h3
                  have := gap_low hs5.out hh
                  have := hp4 h3
                  omega
                · rw [hs5.out.1 h3] at hh; exact absurd hh h3
              clear hk5 h5 hs5 c0 c1
              go_wp2_with fail
              go_meet
              case rel => exact ⟨f5, p5, H5, HK5, hg5, hp5, HM5⟩
            · go_upto_region 11 with fail
              go_cut [43] (fun x wx => ∃ se : Bool, x = .bool se ∧ Qt w4 wx ∧ (f3.err = 0 → selEnds gb (s.drop p4) = se))
              case first =>
                cases gb with
                | false =>
                  go_wp2_with fail
                  go_quiet (fail)
                  go_wp2_with fail
                  go_meet
                  case rel => exact ⟨true, rfl, ⟨_, rfl⟩, fun _ => rfl⟩
                | true =>
                  by_cases hlt : p4 < s.length
                  · have e0 : decide (s.length ≤ p4) = false := by simp; omega
                    have hne : (s.drop p4).isEmpty = false := by
                      cases hx : s.drop p4 with
                      | nil => have := congrArg List.length hx; rw [List.length_drop] at this; simp at this; omega
                      | cons a t => rfl
                    obtain ⟨X, HX0, HXn, HX⟩ := on_words w4 b s p4 f3 v H4.out
                    obtain ⟨e1, he1⟩ : ∃ x, X ⟨#[44]⟩ = x := ⟨_, rfl⟩
                    obtain ⟨e2, he2⟩ : ∃ x, X ⟨#[123]⟩ = x := ⟨_, rfl⟩
                    have HS : Hid (f3.err = 0 → selEnds true (s.drop p4) = (e1 || e2)) := Lib.hid (fun hh => by
                      have h1 := HX.out hh ⟨#[44]⟩
                      have h2 := HX.out hh ⟨#[123]⟩
                      rw [he1] at h1
                      rw [he2] at h2
                      have h1' : e1 = ([44] : B).isPrefixOf (s.drop p4) := h1
                      have h2' : e2 = ([123] : B).isPrefixOf (s.drop p4) := h2
                      unfold selEnds; rw [hne, ← h1', ← h2']; rfl)
                    clear hne HX
                    cases e1 <;> cases e2
                    all_goals
                      go_wp2_with fail
                      go_quiet ((go_at_call 37; first | exact Calls.quiet_of (HX0.out _ (by decide)) | exact Calls.quiet_of (HXn.out _ _ (by decide))))
                      go_wp2_with fail
                      go_meet
                      case rel => exact ⟨_, rfl, ⟨_, rfl⟩, fun hh => (HS.out hh).trans (by first | rfl | simp)⟩
                  · have e0 : decide (s.length ≤ p4) = true := by simp; omega
                    have HS : Hid (selEnds true (s.drop p4) = true) := Lib.hid (by rw [List.drop_eq_nil_of_le (by omega)]; rfl)
                    go_wp2_with fail
                    go_quiet (fail)
                    go_wp2_with fail
                    go_meet
                    case rel => exact ⟨true, rfl, ⟨_, rfl⟩, fun _ => HS.out⟩
              case rest =>
                obtain ⟨se, rfl, hq5, hse⟩ := hcut
                have HK5 := Lib.hid (HK4.out.trans (hq5.kept _))
                have H5 := Lib.hid (H4.out.quiet hq5)
                clear hq5 c0 c1
                cases se with
                | true =>
                  have HM5 : Hid (Mid f0 R f3 (.ok (ps, s.drop p4, p4))) := Lib.hid (HM4.out.eq (fun hh => by rw [if_pos (hse hh)]))
                  go_wp2_with fail
                  go_meet
                  case rel => exact ⟨ps, vs, f3, p4, Lib.hid (HL.out.step hbw HK5.out H5.out HG3.out), HM5⟩
                | false =>
                  have HM5 : Hid (Mid f0 R f3 (kSel n ps 1 (s.drop p4, p4))) := Lib.hid (HM4.out.eq (fun hh => by rw [if_neg (by simp [hse hh])]))
                  go_wp2_with fail
                  go_meet
                  case rel => exact ⟨f3, p4, H5, HK5, HG3.out, hp4, HM5⟩
          case rest =>
            obtain ⟨f5, p5, H5, HK5, hg5, hp5, HM5⟩ := hcut
            clear H4 HK4 hj hp4 c0 c1 HGB hjb HG3
            have c1 := H5.out.c1
            have HG5 := Lib.hid hg5
            clear hg5
            obtain ⟨w5, hw5⟩ : ∃ x, x = wc := ⟨_, rfl⟩
            subst hw5
            go_upto_region 12 with fail
            go_cut [50] (fun c wx => wx = w5 ∧ ∃ cc : Bool, c = .bool cc ∧ (cc = true → f5.err = 0 ∧ ps.length = 6) ∧ (cc = false → f5.err = 0 → ps.length < 6))
            case first =>
              by_cases hf : f5.err = 0
              · have hfe : ((f5.err : Int) == 0) = true := by simp [hf]
                by_cases h6 : ps.length = 6
                · have h6I : (6 : Int) ≤ (ps.length : Int) := by omega
                  have H6 := Lib.hid h6
                  clear h6
                  go_wp2_with fail
                  refine (ok_is true _ b s p5 f5 v H5.out hfe).mono ?_
                  rintro e w13 ⟨rfl, rfl⟩
                  go_wp2_with fail
                  go_meet
                  case rel => exact ⟨rfl, true, by first | rfl | (simp; omega), fun _ => ⟨hf, H6.out⟩, fun hh => by cases hh⟩
                · have h6I : ¬ (6 : Int) ≤ (ps.length : Int) := by omega
                  go_wp2_with fail
                  refine (ok_is true _ b s p5 f5 v H5.out hfe).mono ?_
                  rintro e w13 ⟨rfl, rfl⟩
                  go_wp2_with fail
                  go_meet
                  case rel => exact ⟨rfl, false, by first | rfl | (simp; omega), fun hh => (by cases hh), fun _ _ => by omega⟩
              · have hfe : ((f5.err : Int) == 0) = false := by simp; omega
                go_wp2_with fail
                refine (ok_is false _ b s p5 f5 v H5.out hfe).mono ?_
                rintro e w13 ⟨rfl, rfl⟩
                go_wp2_with fail
                go_meet
                case rel => exact ⟨rfl, false, rfl, fun hh => (by cases hh), fun _ hh => absurd hh hf⟩
            case rest =>
              obtain ⟨rfl, cc, rfl, hcc1, hcc2⟩ := hcut
              go_upto_if 50 with fail
              go_cut [] (fun wx => ∃ f6, Hid (WkAt wx b s p5 f6 v) ∧ Hid (Kept (· = b) wr wx) ∧ (f6.err = 0 → f6 = good) ∧ Hid (Mid f0 R f6 ((sTests (s.drop p5) p5).then (kPart n ps j))) ∧ (f6.err = 0 → ps.length < 6 ∧ p ≤ p5))
              case first =>
                cases cc with
                | true =>
                  obtain ⟨hf, h6⟩ := hcc1 rfl
                  have HK : Hid (kSel n ps j (s.drop p5, p5) = .bad ⟨5, p5⟩) := Lib.hid (by unfold kSel; rw [if_pos h6])
                  clear hcc1 hcc2 h6
                  go_wp2_with fail
                  refine (stop_good 5 p5 _ b s p5 f5 v H5.out hf).mono ?_
                  rintro e w13 ⟨rfl, hk13, h13⟩
                  have HK13 := Lib.hid (HK5.out.trans hk13)
                  have H13 := Lib.hid h13
                  clear hk13 h13
                  go_wp2_with fail
                  go_meet
                  case rel => exact ⟨⟨5, p5⟩, H13, HK13, fun hh => absurd hh (by simp), Lib.hid (HM5.out.kill hf HK.out (by simp)), fun hh => absurd hh (by simp)⟩
                | false =>
                  have HM6 : Hid (Mid f0 R f5 ((sTests (s.drop p5) p5).then (kPart n ps j))) := Lib.hid (HM5.out.eq (fun hf => by
                    have := hcc2 rfl hf
                    unfold kSel; rw [if_neg (by omega)]))
                  have h66 : f5.err = 0 → ps.length < 6 ∧ p ≤ p5 := fun hh => ⟨hcc2 rfl hh, hp5 hh⟩
                  clear hcc1 hcc2
                  go_wp2_with fail
                  go_meet
                  case rel => exact ⟨f5, H5, HK5, HG5.out, HM6, h66⟩
              case rest =>
                obtain ⟨f6, H6, HK6, hg6, HM6, h66⟩ := hcut
                obtain ⟨w6, hw6⟩ : ∃ x, x = wc := ⟨_, rfl⟩
                subst hw6
                clear H5 HK5 HG5 HM5 hcc1 hcc2 c1 hp5
                by_cases hf : f6.err = 0
                · obtain rfl := hg6 hf
                  obtain ⟨h67, h68⟩ := h66 rfl
                  clear hf hg6 h66
                  have HL6 := Lib.hid (HL.out.step hbw HK6.out H6.out (fun _ => rfl))
                  have hw6 : w.heap.size ≤ w6.heap.size := HL6.out.kept.size
                  go_wp2_with fail
                  refine (ok_is true _ b s p5 good v H6.out rfl).mono ?_
                  rintro e w7 ⟨rfl, hw7⟩
                  rw [hw7]
                  clear hw7
                  go_wp2_with fail
                  refine (rtests_gen _ b s p5 good v H6.out (fun _ => rfl)).mono ?_
                  rintro e w8 ⟨l8, ts8, f8, p8, rfl, hl8, hs8⟩
                  have HM8 : Hid (Mid f0 R f8 (sSelL n (ps ++ [⟨j, ts8⟩]) (s.drop p8) p8)) := Lib.hid (HM6.out.step (k := kPart n ps j) hs8.out)
                  have hlt8 : f8.err = 0 → p5 < p8 := fun hh => by
                    rcases hs8.out.2 rfl with ⟨_, h⟩ | ⟨h, _⟩
                    · exact tests_loc.2 _ _ _ _ _ h
                    · exact absurd hh h
                  obtain ⟨lo8, lc8, rfl⟩ := row3_slice hl8.own
                  have HT8 := Lib.hid hl8.tests
                  have HL8 := Lib.hid (HL6.out.step hbw hl8.kept hl8.rd hl8.al)
                  have hw8 : w6.heap.size ≤ w8.heap.size := hl8.kept.size
                  have hl8p := hl8.rd.2.1
                  have how8 := HL8.out.own.own
                  have howlt : ∀ k, (Value.slice lo ps.length lc).ownBlock = some k → k < w6.heap.size := fun k hk => (HL6.out.own.own.lt k hk).2
                  have howlo : ∀ k, (Value.slice lo ps.length lc).ownBlock = some k → w.heap.size ≤ k := fun k hk => (how8.lt k hk).1
                  clear hl8 hs8 HM6 HL
                  go_wp2_with (at_builtin; refine wpList_append_lies _ rfl _ _ _ rfl w.heap.size 75 i0 _ 2 32 Try.underlying59 hi0 hz0 hz1 hz2 rfl (by omega) _ ps.length _ (by rfl) (how8.alloc _) ⟨w8.heap.size, 0, none⟩ 1 1 (partCells ⟨j, ts8⟩ (.slice lo8 ts8.length lc8)) (by rfl) (by rfl) (World.news_of_block (cs := (partCells ⟨j, ts8⟩ (.slice lo8 ts8.length lc8)).toArray) (t := 75) (fr := (0, 0)) (heap_alloc_new w8 _)) (by simp [partCells, Value.oneCell']) (by omega) (by unfold maxLen; omega) (by omega) (by simp; omega) (w8.heap.size + 1) (by simp) ?_; intro gg cap w15 hown15 hgrow15 hat15 hlt15)
                  have hk15 : Kept (fun k => (Value.slice lo ps.length lc).ownBlock = some k) w8 w15 := ((Kept.refl _ w8).alloc _).grown ⟨hgrow15.os, hgrow15.tape, hgrow15.output, hgrow15.size, hgrow15.block⟩ (fun k hk => .inl hk)
                  have HL15 : Hid (RSLoop w w15 b s v (.slice (some ⟨gg, 0, none⟩) (ps.length + 1) cap) (ps ++ [⟨j, ts8⟩]) (vs ++ [.slice lo8 ts8.length lc8]) f8 p8) := Lib.hid ⟨HL8.out.rd.kept hk15 (fun hs => by have := howlo b hs; omega),
                    HL8.out.kept.trans' hk15 (fun k hk hs => by have := howlo k hs; omega), HL8.out.al,
                    HL8.out.own.push part_lasts (HT8.out.kept (S := fun _ => False) (Kept.refl _ _) (fun k _ hs => hs.elim) (fun k _ hx => by
                      rcases hx with hx | hx
                      · show k < w6.heap.size; omega
                      · exact howlt k hx)) hown15 hgrow15 (by rcases hat15 with h | h; exact .inl h; exact .inr (by omega)), by simp; omega⟩
                  clear hk15 hown15 hgrow15 hat15 how8 howlt howlo
                  go_wp2_with fail
                  by_cases hf8 : f8.err = 0
                  · have hlt := hlt8 hf8
                    go_roundg (s.length - p8 + 1)
                    case measure => omega
                    case rel => exact ⟨_, _, f8, p8, n, HL15, HM8, fun _ => ⟨by omega, rfl⟩⟩
                  · go_roundg 0
                    case measure => omega
                    case rel => exact ⟨_, _, f8, p8, n, HL15, HM8, fun hh => absurd hh hf8⟩
                · have hf' : ((f6.err : Int) == 0) = false := by simp; omega
                  have HL6 := Lib.hid (HL.out.step hbw HK6.out H6.out hg6)
                  go_wp2_with fail
                  refine (ok_is false _ b s p5 f6 v H6.out hf').mono ?_
                  rintro e w7 ⟨rfl, hw7⟩
                  rw [hw7]
                  clear hw7
                  go_wp2_with fail
                  go_roundg 0
                  case measure => omega
                  case rel => exact ⟨ps, vs, f6, p5, n, HL6, Lib.hid (HM6.out.dead hf), fun hh => absurd hh hf⟩
      · have hf' : ((f.err : Int) == 0) = false := by simp; omega
        go_wp2_with fail
        refine (ok_is false _ b s p f v HL.out.rd hf').mono ?_
        rintro e w5 ⟨rfl, rfl⟩
        go_wp2_with fail
        go_meet
        case rel => exact ⟨ps, vs, f, p, HL, Lib.hid (HM.out.dead hf)⟩
end Go.Proofs.Ytplbdlgmjehckab
