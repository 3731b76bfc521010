/-
  The document's answer: a part's tests.
-/
import Derived.Test.YtplbdlgmjehckabRfMid
import Derived.Deep.AppendLies
import Derived.Deep.DeepCutAuto
import Derived.Deep.CutBlock
import Derived.Deep.LoopGhost
namespace Go.Proofs.Ytplbdlgmjehckab
open Go.RowKit
set_option linter.unusedVariables false
set_option linter.unusedSimpArgs false

theorem row3_slice {w : World} {base t n : Nat} {av : Value} {xs : List Value} (h : w.ownsRow base t 3 av n xs) : ∃ ao ac, av = .slice ao n ac := by
  rcases h.2 with ⟨rfl, hn⟩ | ⟨g, cap, cur, rfl, _⟩
  · exact ⟨none, 0, by rw [hn]⟩
  · exact ⟨_, cap, rfl⟩
/-- what stands at the head of the loop over tests -/
structure RTLoop (w wr : World) (b : Nat) (s : B) (v : Value) (l : Value) (ts : List PTest) (f : Flt) (p : Nat) : Prop where
  rd : WkAt wr b s p f v
  kept : Kept (· = b) w wr
  al : f.err = 0 → f = good
  own : wr.ownsRow w.heap.size 77 3 l ts.length (ts.map testCells).flatten
  few : ts.length ≤ 7
  live : f.err = 0 → ts.length ≤ 6
section
variable {w wr wx : World} {b : Nat} {s : B} {v : Value} {f f' : Flt} {l : Value} {ts : List PTest} {p p' : Nat}
theorem RTLoop.quiet (h : RTLoop w wr b s v l ts f p) (hq : Qt wr wx) : RTLoop w wx b s v l ts f p :=
  ⟨h.rd.quiet hq, h.kept.trans (hq.kept _), h.al, owns_kept h.own (hq.kept (fun _ => False)) (fun _ _ => id), h.few, h.live⟩
theorem RTLoop.step (h : RTLoop w wr b s v l ts f p) (hb : b < w.heap.size) (hk : Kept (· = b) wr wx) (hr : WkAt wx b s p' f' v) (ha : f'.err = 0 → f' = good) (hl : f'.err = 0 → ts.length ≤ 6) : RTLoop w wx b s v l ts f' p' :=
  ⟨hr, h.kept.trans hk, ha, owns_kept h.own hk (fun k hk' hs => by have := (h.own.lt k hk').1; omega), h.few, hl⟩
end
/-- a test in the making, in a box of its own -/
structure TBox (w0 wr : World) (b tb : Nat) (s : B) (v : Value) (kd : Int) (nm vl : B) (f : Flt) (p : Nat) : Prop where
  rd : WkAt wr b s p f v
  box : wr.heap[tb]? = some (.cells #[.int .i64 kd, .string (str nm), .string (str vl)] 77 (0, 0))
  kept : Kept (· = b) w0 wr
  al : f.err = 0 → f = good
  new : w0.heap.size ≤ tb
  hb : b < tb
section
variable {w0 wr wx : World} {b tb : Nat} {s : B} {v : Value} {kd : Int} {nm vl : B} {f f' : Flt} {p p' : Nat}
theorem TBox.step (h : TBox w0 wr b tb s v kd nm vl f p) (hk : Kept (· = b) wr wx) (hr : WkAt wx b s p' f' v) (ha : f'.err = 0 → f' = good) : TBox w0 wx b tb s v kd nm vl f' p' :=
  ⟨hr, hk.heap (by have := h.hb; omega) h.box, h.kept.trans hk, ha, h.new, h.hb⟩
theorem TBox.quiet (h : TBox w0 wr b tb s v kd nm vl f p) (hq : Qt wr wx) : TBox w0 wx b tb s v kd nm vl f p := h.step (hq.kept _) (h.rd.quiet hq) h.al
theorem TBox.set3 (h : TBox w0 wr b tb s v kd nm vl f p) (kd' : Int) (nm' vl' : B) :
    TBox w0 (((wr.setCell ⟨tb, 0, none⟩ (.int .i64 kd')).setCell ⟨tb, 1, none⟩ (.string (str nm'))).setCell ⟨tb, 2, none⟩ (.string (str vl'))) b tb s v kd' nm' vl' f p := by
  have hb := h.hb
  have hk : Kept (· = tb) wr (((wr.setCell ⟨tb, 0, none⟩ (.int .i64 kd')).setCell ⟨tb, 1, none⟩ (.string (str nm'))).setCell ⟨tb, 2, none⟩ (.string (str vl'))) :=
    (((Kept.refl (· = tb) wr).setCell (p := ⟨tb, 0, none⟩) (.inl rfl) _).setCell (p := ⟨tb, 1, none⟩) (.inl rfl) _).setCell (p := ⟨tb, 2, none⟩) (.inl rfl) _
  refine ⟨h.rd.kept hk (by omega), ?_, h.kept.trans' hk (fun k hk' hs => by have hn := h.new; omega), h.al, h.new, h.hb⟩
  have := setIn (setIn (setIn h.box 0 (.int .i64 kd')) 1 (.string (str nm'))) 2 (.string (str vl'))
  simpa using this
theorem TBox.set02 (h : TBox w0 wr b tb s v kd nm vl f p) (kd' : Int) (vl' : B) : TBox w0 ((wr.setCell ⟨tb, 0, none⟩ (.int .i64 kd')).setCell ⟨tb, 2, none⟩ (.string (str vl'))) b tb s v kd' nm vl' f p := by
  have hb := h.hb
  have hk : Kept (· = tb) wr ((wr.setCell ⟨tb, 0, none⟩ (.int .i64 kd')).setCell ⟨tb, 2, none⟩ (.string (str vl'))) :=
    ((Kept.refl (· = tb) wr).setCell (p := ⟨tb, 0, none⟩) (.inl rfl) _).setCell (p := ⟨tb, 2, none⟩) (.inl rfl) _
  refine ⟨h.rd.kept hk (by omega), ?_, h.kept.trans' hk (fun k hk' hs => by have hn := h.new; omega), h.al, h.new, h.hb⟩
  have := setIn (setIn h.box 0 (.int .i64 kd')) 2 (.string (str vl'))
  simpa using this
end
/-- what the rest of an attribute's test answers -/
def tAttr3 (kd : Int) (nm vl : B) (x : B × Nat) : Ans (Option PTest × B × Nat) := .ok (some ⟨kd, nm, vl⟩, x.1, x.2)
def tAttr2 (nm : B) (l : B) (a : Nat) : Ans (Option PTest × B × Nat) :=
  if [61].isPrefixOf l then (sName (l.drop 1) (a + 1)).then fun x => (pMust [93] x.2.1 x.2.2).then (tAttr3 5 nm x.1) else (pMust [93] l a).then (tAttr3 4 nm [])
def tAttr1 (x : B × B × Nat) : Ans (Option PTest × B × Nat) := if x.1 = styleName then .bad ⟨1, x.2.2⟩ else tAttr2 x.1 x.2.1 x.2.2
def tName (kd : Int) (x : B × B × Nat) : Ans (Option PTest × B × Nat) := .ok (some ⟨kd, x.1, []⟩, x.2.1, x.2.2)
theorem sTest_dot {l : B} {a : Nat} (h : ([46] : B).isPrefixOf l = true) : sTest l a = (sName (l.drop 1) (a + 1)).then (tName 2) := by unfold sTest; rw [if_pos h]; rfl
theorem sTest_hash {l : B} {a : Nat} (h1 : ([46] : B).isPrefixOf l = false) (h : ([35] : B).isPrefixOf l = true) : sTest l a = (sName (l.drop 1) (a + 1)).then (tName 3) := by unfold sTest; rw [if_neg (by simp [h1]), if_pos h]; rfl
theorem sTest_first {l : B} {a : Nat} (h1 : ([46] : B).isPrefixOf l = false) (h2 : ([35] : B).isPrefixOf l = false) (h : firstWord.isPrefixOf l = true) : sTest l a = .ok (some ⟨6, [], []⟩, l.drop 6, a + 6) := by
  unfold sTest; rw [if_neg (by simp [h1]), if_neg (by simp [h2]), if_pos h]
theorem sTest_attr {l : B} {a : Nat} (h1 : ([46] : B).isPrefixOf l = false) (h2 : ([35] : B).isPrefixOf l = false) (h3 : firstWord.isPrefixOf l = false) (h : ([91] : B).isPrefixOf l = true) : sTest l a = (sName (l.drop 1) (a + 1)).then tAttr1 := by
  unfold sTest; rw [if_neg (by simp [h1]), if_neg (by simp [h2]), if_neg (by simp [h3]), if_pos h]
  unfold sAttrTest
  cases sName (l.drop 1) (a + 1) with
  | bad f => rfl
  | ok x =>
    simp only [Ans.ok_then]
    unfold tAttr1 tAttr2
    split
    · rfl
    · split
      · cases sName (x.2.1.drop 1) (x.2.2 + 1) with
        | bad f => rfl
        | ok y =>
          simp only [Ans.ok_then]
          cases pMust [93] y.2.1 y.2.2 <;> rfl
      · cases pMust [93] x.2.1 x.2.2 <;> rfl
theorem sTest_none {l : B} {a : Nat} (h1 : ([46] : B).isPrefixOf l = false) (h2 : ([35] : B).isPrefixOf l = false) (h3 : firstWord.isPrefixOf l = false) (h4 : ([91] : B).isPrefixOf l = false) : sTest l a = .ok (none, l, a) := by
  unfold sTest; rw [if_neg (by simp [h1]), if_neg (by simp [h2]), if_neg (by simp [h3]), if_neg (by simp [h4])]
def tKeep (n : Nat) (ts : List PTest) (sb : Bool) (l : B) (a : Nat) (x : Option PTest × B × Nat) : Ans (List PTest × B × Nat) :=
  match x.1 with
  | none => if sb then .ok (ts, l, a) else .bad ⟨2, a⟩
  | some t => if ts.length = 6 then .bad ⟨5, x.2.2⟩ else sTestsL n (ts ++ [t]) true x.2.1 x.2.2
theorem testsL_eq (n : Nat) (ts : List PTest) (sb : Bool) (l : B) (a : Nat) : sTestsL (n + 1) ts sb l a = (sTest l a).then (tKeep n ts sb l a) := by
  simp only [sTestsL]; rfl
theorem test_far {l : B} {a : Nat} {t : PTest} {l' : B} {a' : Nat} (h : sTest l a = .ok (some t, l', a')) : a < a' := by
  obtain ⟨u, _, h2, h3, _⟩ := test_loc h
  have := h3 (by simp)
  omega
/-- what is behind a part's head -/
def tHeadK (x : List PTest × Bool × B × Nat) : Ans (List PTest × B × Nat) := sTestsL (x.2.2.1.length + 1) x.1 x.2.1 x.2.2.1 x.2.2.2
theorem sTests_star {l : B} {a : Nat} (h : ([42] : B).isPrefixOf l = true) : sTests l a = sTestsL ((l.drop 1).length + 1) [] true (l.drop 1) (a + 1) := by
  unfold sTests sHead; rw [if_pos h]; rfl
theorem sTests_bare {l : B} {a : Nat} (h : ([42] : B).isPrefixOf l = false) (h0 : nameLen l = 0) : sTests l a = sTestsL (l.length + 1) [] false l a := by
  unfold sTests sHead; rw [if_neg (by simp [h]), if_pos h0]; rfl
theorem sTests_name {l : B} {a : Nat} (h : ([42] : B).isPrefixOf l = false) (h0 : nameLen l ≠ 0) : sTests l a = (sName l a).then fun x => sTestsL (x.2.1.length + 1) [⟨1, x.1, []⟩] true x.2.1 x.2.2 := by
  unfold sTests sHead; rw [if_neg (by simp [h]), if_neg h0]
  cases sName l a <;> rfl
theorem nameLen_low {s : B} {p : Nat} (h : p < s.length) (hl : isLow (s[p]'h) = true) : nameLen (s.drop p) ≠ 0 := by
  intro h0
  have := nameLen_out (s.drop p) (by rw [h0, List.length_drop]; omega)
  rw [List.getElem_drop] at this
  have e : ∀ k, (hk : k = 0) → (hp : p + k < s.length) → inName k (s[p + k]'hp) = inName 0 (s[p]'h) := by
    intro k hk hp; subst hk; rfl
  rw [e _ h0 (by rw [h0]; omega)] at this
  unfold inName at this
  rw [if_pos rfl, hl] at this
  cases this
theorem nameLen_notlow {s : B} {p : Nat} (h : p < s.length) (hl : isLow (s[p]'h) = false) : nameLen (s.drop p) = 0 := by
  refine Classical.byContradiction fun h0 => ?_
  obtain ⟨h1, h2⟩ := nameLen_in (s.drop p) 0 (by omega)
  rw [List.getElem_drop] at h2
  have : inName 0 (s[p]'h) = true := h2
  unfold inName at this
  rw [if_pos rfl, hl] at this
  cases this

set_option maxRecDepth 100000 in
set_option maxHeartbeats 12800000 in
theorem rtests_gen (w : World) (b : Nat) (s : B) (a : Nat) (f0 : Flt) (v : Value) (h : WkAt w b s a f0 v) (hg : f0.err = 0 → f0 = good) :
    Calls Try.prog 54 #[.pointer (some ⟨b, 0, none⟩)] w fun e w' => ∃ (l : Value) (ts : List PTest) (f' : Flt) (a' : Nat), e = .returned l ∧ RTLoop w w' b s v l ts f' a' ∧ Hid (Step f0 (sTests (s.drop a) a) f' (ts, s.drop a', a')) := by
  obtain ⟨R, HR⟩ : ∃ R, Hid (sTests (s.drop a) a = R) := ⟨_, Lib.hid rfl⟩
  rw [HR.out]
  have H := Lib.hid h
  have hbw : b < w.heap.size := h.lt
  have hls := h.2.2
  have HG := Lib.hid hg
  obtain ⟨i0, hi0, hz0, hz1, hz2⟩ := info_parts info_test
  clear h hg
  go_enter Try.func54, Try.ntmps54
  go_wp2_with fail
  refine (eat_gen [42] _ b s a f0 v H.out (by decide) (by simp)).mono ?_
  rintro e w1 ⟨x, rfl, hk1, p1, h1, hx1, hx2⟩
  have HX1 := Lib.hid hx1
  have HX2 := Lib.hid hx2
  have hl1 := h1.2.1
  have c0 := h1.c0
  have c1 := h1.c1
  have HK1 := Lib.hid hk1
  have H1 := Lib.hid h1
  clear hk1 h1 hx1 hx2
  go_upto_region 3 with fail
  go_cut [37] (fun c wx => ∃ c0 : Bool, c = .bool c0 ∧ Hid (Qt w1 wx) ∧ (c0 = true → x = false ∧ f0.err = 0 ∧ nameLen (s.drop p1) ≠ 0) ∧ (c0 = false → f0.err = 0 → x = true ∨ nameLen (s.drop p1) = 0))
  case first =>
    cases x with
    | true =>
      go_wp2_with fail
      go_quiet (fail)
      go_wp2_with fail
      go_meet
      case rel => exact ⟨false, rfl, Lib.hid ⟨nq, rfl⟩, fun hh => (by cases hh), fun _ _ => .inl (by first | rfl | trivial)⟩
    | false =>
      by_cases hf : f0.err = 0
      · have hfe : ((f0.err : Int) == 0) = true := by simp [hf]
        by_cases hlt : p1 < s.length
        · have e0 : decide ((p1 : Int) < (s.length : Int)) = true := by simp; omega
          have e1 : (0 : Int) ≤ (p1 : Int) := by omega
          have e2 : (p1 : Int) < (s.length : Int) := by omega
          cases hlo : isLow (s[p1]'hlt) with
          | true =>
            have HLO := Lib.hid hlo
            clear hlo
            go_wp2_with fail
            go_quiet (first | (go_at_call 23; exact Calls.quiet_of_same (ok_is true _ b s p1 f0 v H1.out hfe)) | (go_at_call 53; exact Calls.quiet_of_same (low_is _ true _ HLO.out)))
            go_wp2_with fail
            go_meet
            case rel => exact ⟨true, rfl, Lib.hid ⟨nq, rfl⟩, fun _ => ⟨by first | rfl | trivial, hf, nameLen_low hlt HLO.out⟩, fun hh => by cases hh⟩
          | false =>
            have HLO := Lib.hid hlo
            clear hlo
            go_wp2_with fail
            go_quiet (first | (go_at_call 23; exact Calls.quiet_of_same (ok_is true _ b s p1 f0 v H1.out hfe)) | (go_at_call 53; exact Calls.quiet_of_same (low_is _ false _ HLO.out)))
            go_wp2_with fail
            go_meet
            case rel => exact ⟨false, rfl, Lib.hid ⟨nq, rfl⟩, fun hh => (by cases hh), fun _ _ => .inr (nameLen_notlow hlt HLO.out)⟩
        · have e0 : decide ((p1 : Int) < (s.length : Int)) = false := by simp; omega
          go_wp2_with fail
          go_quiet ((go_at_call 23; exact Calls.quiet_of_same (ok_is true _ b s p1 f0 v H1.out hfe)))
          go_wp2_with fail
          go_meet
          case rel => exact ⟨false, rfl, Lib.hid ⟨nq, rfl⟩, fun hh => (by cases hh), fun _ _ => .inr (by rw [List.drop_of_length_le (by omega)]; rfl)⟩
      · have hfe : ((f0.err : Int) == 0) = false := by simp; omega
        go_wp2_with fail
        go_quiet ((go_at_call 23; exact Calls.quiet_of_same (ok_is false _ b s p1 f0 v H1.out hfe)))
        go_wp2_with fail
        go_meet
        case rel => exact ⟨false, rfl, Lib.hid ⟨nq, rfl⟩, fun hh => (by cases hh), fun _ hh => absurd hh hf⟩
  case rest =>
    obtain ⟨cb, rfl, HQ, hc1, hc2⟩ := hcut
    obtain ⟨w2, hw2⟩ : ∃ x, x = wc := ⟨_, rfl⟩
    subst hw2
    have HC1 := Lib.hid hc1
    have HC2 := Lib.hid hc2
    have HK2 : Hid (Kept (· = b) w w2) := Lib.hid (HK1.out.trans (HQ.out.kept _))
    have H2 : Hid (WkAt w2 b s p1 f0 v) := Lib.hid (H1.out.quiet HQ.out)
    clear c0 c1 hc1 hc2
    go_upto_if 37 with fail
    go_cut [3, 4] (fun l sm wx => ∃ (ts : List PTest) (sb : Bool) (f : Flt) (p : Nat), sm = .bool sb ∧ Hid (RTLoop w wx b s v l ts f p) ∧ Hid (Mid f0 R f (sTestsL ((s.drop p).length + 1) ts sb (s.drop p) p)))
    case first =>
      cases cb with
      | false =>
        have hM : Hid (Mid f0 R f0 (sTestsL ((s.drop p1).length + 1) [] x (s.drop p1) p1)) := Lib.hid (by
          have := Mid.start (sTests (s.drop a) a) f0
          rw [HR.out] at this
          refine this.eq fun hf => ?_
          rw [← HR.out]
          cases x with
          | true =>
            obtain ⟨_, h2, h3⟩ := HX1.out rfl
            rw [sTests_star h2, List.drop_drop, h3]; rfl
          | false =>
            obtain ⟨h2, h3⟩ := HX2.out rfl
            have h4 := (HC2.out rfl hf).resolve_left (by simp)
            have h5 := h3 hf
            subst h2
            rw [sTests_bare h5 h4])
        go_wp2_with fail
        go_meet
        case rel => exact ⟨[], x, f0, p1, rfl, Lib.hid ⟨H2.out, HK2.out, HG.out, World.ownsRow_nil _ _ _ _, by simp, fun _ => by simp⟩, hM⟩
      | true =>
        obtain ⟨hxf, hf0, hnl⟩ := HC1.out rfl
        subst hxf
        obtain ⟨h2, h3⟩ := HX2.out rfl
        have h5 := h3 hf0
        subst h2
        obtain rfl := HG.out hf0
        have hM0 : Hid (Mid good R good ((sName (s.drop p1) p1).then fun x => sTestsL (x.2.1.length + 1) [⟨1, x.1, []⟩] true x.2.1 x.2.2)) := Lib.hid (by
          have := Mid.start (sTests (s.drop p1) p1) good
          rw [HR.out] at this
          exact this.eq fun hf => by rw [← HR.out, sTests_name h5 hnl])
        clear h3 h5 hnl
        go_wp2_with fail
        refine (sname_gen _ b s p1 good v H2.out (fun _ => rfl)).mono ?_
        rintro e w3 ⟨nm, rfl, hk3, f3, p3, h3, hg3, hnl3, hs3⟩
        have HM3 := Lib.hid (hM0.out.step (k := fun x => sTestsL (x.2.1.length + 1) [⟨1, x.1, []⟩] true x.2.1 x.2.2) hs3.out)
        have HK3 := Lib.hid (HK2.out.trans hk3)
        have H3 := Lib.hid h3
        have HG3 := Lib.hid hg3
        have hw3 : w.heap.size ≤ w3.heap.size := HK3.out.size
        clear hk3 h3 hs3 hg3
        go_wp2_with (at_builtin; refine wpList_append_lies _ rfl _ _ _ rfl w.heap.size 77 i0 _ 3 40 Try.underlying73 hi0 hz0 hz1 hz2 rfl (by omega) (.slice none 0 0) 0 [] (by rfl) (World.ownsRow_nil _ _ _ _) ⟨w3.heap.size, 0, none⟩ 1 1 [.int .i64 1, .string (str nm), .string ⟨#[]⟩] (by rfl) (by rfl) (World.news_of_block (cs := #[.int .i64 1, .string (str nm), .string ⟨#[]⟩]) (t := 77) (fr := (0, 0)) (heap_alloc_new w3 _)) (by simp [Value.oneCell']) (by omega) (by unfold maxLen; omega) (by omega) (by simp; omega) (w3.heap.size + 1) (by simp) ?_; intro gg cap w4 hown4 hgrow4 hat4 hlt4)
        have hk4 : Kept (fun k => (Value.slice none 0 0).ownBlock = some k) w3 w4 := ((Kept.refl _ w3).alloc _).grown ⟨hgrow4.os, hgrow4.tape, hgrow4.output, hgrow4.size, hgrow4.block⟩ (fun k hk => .inl hk)
        have hk4' : Kept (· = b) w3 w4 := hk4.mono (fun k _ hk => by cases hk)
        have HL4 : Hid (RTLoop w w4 b s v (.slice (some ⟨gg, 0, none⟩) (0 + 1) cap) [⟨1, nm, []⟩] f3 p3) := Lib.hid ⟨H3.out.kept hk4 (by simp [Value.ownBlock]), HK3.out.trans hk4', fun hh => (HG3.out hh).1, by simpa [testCells, str] using hown4, by simp, fun _ => by simp⟩
        clear hk4 hk4' hown4 hgrow4 hat4
        go_wp2_with fail
        go_meet
        case rel => exact ⟨[⟨1, nm, []⟩], true, f3, p3, rfl, HL4, HM3⟩
    case rest =>
      obtain ⟨ts0, sb0, f3, p3, rfl, HL3, HM3⟩ := hcut
      clear HK1 H1 HK2 H2 HQ HX1 HX2 HC1 HC2
      go_upto_block 0 with fail
      go_cut [3, 4] (fun l sm wx => ∃ (ts : List PTest) (sb : Bool) (f : Flt) (p : Nat), sm = .bool sb ∧ Hid (RTLoop w wx b s v l ts f p) ∧ Hid (Mid f0 R f (if sb = true then .ok (ts, s.drop p, p) else .bad ⟨2, p⟩)))
      case rest =>
        obtain ⟨ts, sb, f, p, rfl, HL, HM⟩ := hcut
        have c1 := HL.out.rd.c1
        cases sb with
        | true =>
          go_wp2_with fail
          go_ret
          have HSF : Hid (Step f0 R f (ts, s.drop p, p)) := Lib.hid (Mid.fin (Mid.eq (Y := .ok (ts, s.drop p, p)) HM.out (fun _ => by simp)))
          first
            | exact ⟨_, ts, f, p, rfl, HL.out, HSF⟩
            | exact ⟨_, rfl, ts, f, p, HL.out, HSF⟩
        | false =>
          by_cases hf : f.err = 0
          · go_wp2_with fail
            refine (stop_good 2 p _ b s p f v HL.out.rd hf).mono ?_
            rintro e w9 ⟨rfl, hk9, h9⟩
            have HL9 := Lib.hid (HL.out.step hbw hk9 h9 (fun hh => absurd hh (by simp)) (fun hh => absurd hh (by simp)))
            clear hk9 h9
            go_wp2_with fail
            go_ret
            exact ⟨_, ts, ⟨2, p⟩, p, rfl, HL9.out, Lib.hid (Mid.fin (HM.out.kill hf (f' := ⟨2, p⟩) (by simp) (by simp)))⟩
          · go_wp2_with fail
            refine (stop_dead 2 (p : Int) _ b s p f v HL.out.rd hf).mono ?_
            rintro e w9 ⟨rfl, rfl⟩
            go_wp2_with fail
            go_ret
            exact ⟨_, ts, f, p, rfl, HL.out, Lib.hid (Mid.fin (HM.out.dead hf))⟩
      case first =>
        go_wp2_with fail
        go_loopg [3, 4] (s.length - p3 + 1) (fun k l sm wr => ∃ (ts : List PTest) (sb : Bool) (f : Flt) (p n : Nat), sm = .bool sb ∧ Hid (RTLoop w wr b s v l ts f p) ∧ Hid (Mid f0 R f (sTestsL n ts sb (s.drop p) p)) ∧ (f.err = 0 → s.length - p < n ∧ k = s.length - p + 1))
        case atStart => exact ⟨ts0, sb0, f3, p3, _, rfl, HL3, HM3, fun hf => ⟨by rw [List.length_drop]; omega, rfl⟩⟩
        case round =>
          obtain ⟨ts, sb, f, p, n, rfl, HL, HM, hal⟩ := hrel
          obtain ⟨wr0, hwr0⟩ : ∃ x, x = wr := ⟨_, rfl⟩
          subst hwr0
          obtain ⟨lo, lc, hlv⟩ := row3_slice HL.out.own
          subst hlv
          by_cases hf : f.err = 0
          · obtain rfl := HL.out.al hf
            obtain ⟨hn, hk⟩ := hal rfl
            clear hal hf
            obtain ⟨n, rfl⟩ : ∃ m, n = m + 1 := ⟨n - 1, by omega⟩
            have hts6 := HL.out.live rfl
            have hlp := HL.out.rd.2.1
            obtain ⟨T, HT⟩ : ∃ x, Hid (sTest (s.drop p) p = x) := ⟨_, Lib.hid rfl⟩
            have HMT : Hid (Mid f0 R good (T.then (tKeep n ts sb (s.drop p) p))) := Lib.hid (by rw [← HT.out]; exact HM.out.eq (fun _ => testsL_eq n ts sb (s.drop p) p))
            obtain ⟨tb, HTB⟩ : ∃ x, Hid (wr0.heap.size = x) := ⟨_, Lib.hid rfl⟩
            obtain ⟨w6, HW6⟩ : ∃ x, Hid (wr0.alloc (.cells #[.int .i64 0, .string ⟨#[]⟩, .string ⟨#[]⟩] 77 (0, 0)) = x) := ⟨_, Lib.hid rfl⟩
            have HB6 : Hid (TBox wr0 w6 b tb s v 0 [] [] good p) := Lib.hid (by
              rw [← HW6.out, ← HTB.out]
              exact ⟨HL.out.rd.alloc _, newIn wr0 _, (Kept.refl _ wr0).alloc _, fun _ => rfl, Nat.le_refl _, HL.out.rd.lt⟩)
            go_wp2_with fail
            refine (ok_is true _ b s p good v HL.out.rd rfl).mono ?_
            rintro e w5 ⟨rfl, hw5⟩
            rw [hw5]
            clear hw5
            go_upto_block 2 with fail
            rw [HW6.out, HTB.out]
            go_cut [] (fun wx => ∃ (kd : Int) (nm vl : B) (f : Flt) (p' : Nat), Hid (TBox wr0 wx b tb s v kd nm vl f p') ∧ ((kd = 0 ∧ f = good ∧ p' = p ∧ Hid (T = .ok (none, s.drop p, p))) ∨ (kd ≠ 0 ∧ Hid (Step good T f (some ⟨kd, nm, vl⟩, s.drop p', p')))))
            case first =>
              have hT0 : Mid good T good T := Mid.start T good
              have HT0 := Lib.hid hT0
              clear hT0 HM HL HMT
              go_wp2_with fail
              refine (eat_gen [46] _ b s p good v HB6.out.rd (by decide) (by simp)).mono ?_
              rintro e w7 ⟨x, rfl, hk7, p7, h7, hx1, hx2⟩
              have HB7 := Lib.hid (HB6.out.step hk7 h7 (fun _ => rfl))
              clear hk7 h7 HB6
              cases x with
              | true =>
                obtain ⟨_, hyes, rfl⟩ := hx1 rfl
                have HM7 : Hid (Mid good T good ((sName (s.drop (p + [46].length)) (p + [46].length)).then (tName 2))) := Lib.hid (HT0.out.eq (fun _ => by rw [← HT.out, sTest_dot hyes, List.drop_drop]; rfl))
                clear hx1 hx2 hyes
                go_wp2_with fail
                refine (sname_gen _ b s (p + [46].length) good v HB7.out.rd (fun _ => rfl)).mono ?_
                rintro e w8 ⟨nm, rfl, hk8, f8, p8, h8, hg8, hnl8, hs8⟩
                have HB8 := Lib.hid (HB7.out.step hk8 h8 (fun hh => (hg8 hh).1))
                have HS8 := Lib.hid (Mid.fin (HM7.out.step (k := tName 2) hs8.out))
                clear hk8 h8 hg8 hs8 HB7 HM7
                have d0 := cellIn HB8.out.box 0 rfl
                have d1 := cellIn HB8.out.box 1 rfl
                have d2 := cellIn HB8.out.box 2 rfl
                have e0 := freeIn HB8.out.box 0
                have e1 := freeIn HB8.out.box 1
                have e2 := freeIn HB8.out.box 2
                have HB9 := Lib.hid (HB8.out.set3 2 nm [])
                go_wp2_with fail
                go_meet
                case rel => exact ⟨2, nm, [], f8, p8, HB9, .inr ⟨by decide, HS8⟩⟩
              | false =>
                obtain ⟨rfl, hno⟩ := hx2 rfl
                have HN1 := Lib.hid (hno rfl)
                clear hx1 hx2 hno
                go_wp2_with fail
                refine (eat_gen [35] _ b s p7 good v HB7.out.rd (by decide) (by simp)).mono ?_
                rintro e w8 ⟨x, rfl, hk8, p8, h8, hx1, hx2⟩
                have HB8 := Lib.hid (HB7.out.step hk8 h8 (fun _ => rfl))
                clear hk8 h8 HB7
                cases x with
                | true =>
                  obtain ⟨_, hyes, rfl⟩ := hx1 rfl
                  have HM7 : Hid (Mid good T good ((sName (s.drop (p7 + [35].length)) (p7 + [35].length)).then (tName 3))) := Lib.hid (HT0.out.eq (fun _ => by rw [← HT.out, sTest_hash HN1.out hyes, List.drop_drop]; rfl))
                  clear hx1 hx2 hyes
                  go_wp2_with fail
                  refine (sname_gen _ b s (p7 + [35].length) good v HB8.out.rd (fun _ => rfl)).mono ?_
                  rintro e w9 ⟨nm, rfl, hk9, f9, p9, h9, hg9, hnl9, hs9⟩
                  have HB9 := Lib.hid (HB8.out.step hk9 h9 (fun hh => (hg9 hh).1))
                  have HS9 := Lib.hid (Mid.fin (HM7.out.step (k := tName 3) hs9.out))
                  clear hk9 h9 hg9 hs9 HB8 HM7
                  have d0 := cellIn HB9.out.box 0 rfl
                  have d1 := cellIn HB9.out.box 1 rfl
                  have d2 := cellIn HB9.out.box 2 rfl
                  have e0 := freeIn HB9.out.box 0
                  have e1 := freeIn HB9.out.box 1
                  have e2 := freeIn HB9.out.box 2
                  have HB10 := Lib.hid (HB9.out.set3 3 nm [])
                  go_wp2_with fail
                  go_meet
                  case rel => exact ⟨3, nm, [], f9, p9, HB10, .inr ⟨by decide, HS9⟩⟩
                | false =>
                  obtain ⟨rfl, hno⟩ := hx2 rfl
                  have HN2 := Lib.hid (hno rfl)
                  clear hx1 hx2 hno
                  go_wp2_with fail
                  refine (eat_gen firstWord _ b s p8 good v HB8.out.rd (by decide) (by decide)).mono ?_
                  rintro e w9 ⟨x, rfl, hk9, p9, h9, hx1, hx2⟩
                  have HB9 := Lib.hid (HB8.out.step hk9 h9 (fun _ => rfl))
                  clear hk9 h9 HB8
                  cases x with
                  | true =>
                    obtain ⟨_, hyes, rfl⟩ := hx1 rfl
                    have HS9 : Hid (Step good T good (some ⟨6, [], []⟩, s.drop (p8 + firstWord.length), p8 + firstWord.length)) := Lib.hid (Mid.fin (HT0.out.eq (fun _ => by rw [← HT.out, sTest_first HN1.out HN2.out hyes, List.drop_drop]; rfl)))
                    clear hx1 hx2 hyes
                    have d0 := cellIn HB9.out.box 0 rfl
                    have d1 := cellIn HB9.out.box 1 rfl
                    have d2 := cellIn HB9.out.box 2 rfl
                    have e0 := freeIn HB9.out.box 0
                    have e1 := freeIn HB9.out.box 1
                    have e2 := freeIn HB9.out.box 2
                    have HB10 := Lib.hid (HB9.out.set3 6 [] [])
                    go_wp2_with fail
                    go_meet
                    case rel => exact ⟨6, [], [], good, _, HB10, .inr ⟨by decide, HS9⟩⟩
                  | false =>
                    obtain ⟨rfl, hno⟩ := hx2 rfl
                    have HN3 := Lib.hid (hno rfl)
                    clear hx1 hx2 hno
                    go_wp2_with fail
                    refine (eat_gen [91] _ b s p9 good v HB9.out.rd (by decide) (by simp)).mono ?_
                    rintro e w10 ⟨x, rfl, hk10, p10, h10, hx1, hx2⟩
                    have HB10 := Lib.hid (HB9.out.step hk10 h10 (fun _ => rfl))
                    clear hk10 h10 HB9
                    cases x with
                    | false =>
                      obtain ⟨rfl, hno⟩ := hx2 rfl
                      have HTN : Hid (T = .ok (none, s.drop p10, p10)) := Lib.hid (by rw [← HT.out, sTest_none HN1.out HN2.out HN3.out (hno rfl)])
                      clear hx1 hx2 hno
                      go_wp2_with fail
                      go_meet
                      case rel => exact ⟨0, [], [], good, p10, HB10, .inl ⟨rfl, rfl, rfl, HTN⟩⟩
                    | true =>
                      obtain ⟨_, hyes, rfl⟩ := hx1 rfl
                      have HM7 : Hid (Mid good T good ((sName (s.drop (p9 + [91].length)) (p9 + [91].length)).then tAttr1)) := Lib.hid (HT0.out.eq (fun _ => by rw [← HT.out, sTest_attr HN1.out HN2.out HN3.out hyes, List.drop_drop]; rfl))
                      clear hx1 hx2 hyes HT0 HN1 HN2 HN3
                      go_wp2_with fail
                      refine (sname_gen _ b s (p9 + [91].length) good v HB10.out.rd (fun _ => rfl)).mono ?_
                      rintro e w11 ⟨nm, rfl, hk11, f11, p11, h11, hg11, hnl11, hs11⟩
                      have HB11 := Lib.hid (HB10.out.step hk11 h11 (fun hh => (hg11 hh).1))
                      have M11 := Lib.hid (HM7.out.step (k := tAttr1) hs11.out)
                      clear hk11 h11 hg11 hs11 HB10 HM7
                      have d0 := cellIn HB11.out.box 0 rfl
                      have d1 := cellIn HB11.out.box 1 rfl
                      have d2 := cellIn HB11.out.box 2 rfl
                      have e0 := freeIn HB11.out.box 0
                      have e1 := freeIn HB11.out.box 1
                      have e2 := freeIn HB11.out.box 2
                      obtain ⟨w12, HW12⟩ : ∃ x, Hid (((w11.setCell ⟨tb, 0, none⟩ (.int .i64 4)).setCell ⟨tb, 1, none⟩ (.string (str nm))).setCell ⟨tb, 2, none⟩ (.string ⟨#[]⟩) = x) := ⟨_, Lib.hid rfl⟩
                      have HB12 : Hid (TBox wr0 w12 b tb s v 4 nm [] f11 p11) := Lib.hid (by rw [← HW12.out]; exact HB11.out.set3 4 nm [])
                      go_upto_region 16 with fail
                      rw [HW12.out]
                      clear d0 d1 d2 e0 e1 e2 HB11
                      have d1 := cellIn HB12.out.box 1 rfl
                      have c1 := HB12.out.rd.c1
                      go_cut [74] (fun c wx => wx = w12 ∧ ∃ cc : Bool, c = .bool cc ∧ (cc = true → f11.err = 0 ∧ nm = styleName) ∧ (cc = false → f11.err = 0 → nm ≠ styleName))
                      case first =>
                        by_cases hf : f11.err = 0
                        · have hfe : ((f11.err : Int) == 0) = true := by simp [hf]
                          by_cases hst : nm = styleName
                          · have e1 : (nm == styleName) = true := by rw [hst]; rfl
                            have HST := Lib.hid hst
                            clear hst
                            go_wp2_with fail
                            refine (ok_is true _ b s p11 f11 v HB12.out.rd hfe).mono ?_
                            rintro e w13 ⟨rfl, rfl⟩
                            go_wp2_with fail
                            go_meet
                            case rel => exact ⟨rfl, true, by first | (rw [← e1]; rfl) | (simp [styleName] at e1 ⊢; exact e1), fun _ => ⟨hf, HST.out⟩, fun hh => by cases hh⟩
                          · have e1 : (nm == styleName) = false := by rw [beq_eq_false_iff_ne]; exact hst
                            have HST := Lib.hid hst
                            clear hst
                            go_wp2_with fail
                            refine (ok_is true _ b s p11 f11 v HB12.out.rd hfe).mono ?_
                            rintro e w13 ⟨rfl, rfl⟩
                            go_wp2_with fail
                            go_meet
                            case rel => exact ⟨rfl, false, by first | (rw [← e1]; rfl) | (simp [styleName] at e1 ⊢; exact e1), fun hh => (by cases hh), fun _ _ => HST.out⟩
                        · have hfe : ((f11.err : Int) == 0) = false := by simp; omega
                          go_wp2_with fail
                          refine (ok_is false _ b s p11 f11 v HB12.out.rd hfe).mono ?_
                          rintro e w13 ⟨rfl, rfl⟩
                          go_wp2_with fail
                          go_meet
                          case rel => exact ⟨rfl, false, rfl, fun hh => (by cases hh), fun _ hh => absurd hh hf⟩
                      case rest =>
                        obtain ⟨rfl, cc, rfl, hcc1, hcc2⟩ := hcut
                        go_upto_if 74 with fail
                        go_cut [] (fun wx => ∃ f, Hid (TBox wr0 wx b tb s v 4 nm [] f p11) ∧ Hid (Mid good T f (tAttr2 nm (s.drop p11) p11)))
                        case first =>
                          cases cc with
                          | true =>
                            obtain ⟨hf, hst⟩ := hcc1 rfl
                            have HK : Hid (tAttr1 (nm, s.drop p11, p11) = .bad ⟨1, p11⟩) := Lib.hid (by unfold tAttr1; rw [if_pos hst])
                            clear hcc1 hcc2 hst
                            go_wp2_with fail
                            refine (stop_good 1 p11 _ b s p11 f11 v HB12.out.rd hf).mono ?_
                            rintro e w13 ⟨rfl, hk13, h13⟩
                            have HB13 := Lib.hid (HB12.out.step hk13 h13 (fun hh => absurd hh (by simp)))
                            clear hk13 h13
                            go_wp2_with fail
                            go_meet
                            case rel => exact ⟨⟨1, p11⟩, HB13, Lib.hid (M11.out.kill hf HK.out (by simp))⟩
                          | false =>
                            have HK : Hid (Mid good T f11 (tAttr2 nm (s.drop p11) p11)) := Lib.hid (M11.out.eq (fun hf => by unfold tAttr1; rw [if_neg (hcc2 rfl hf)]))
                            clear hcc1 hcc2
                            go_wp2_with fail
                            go_meet
                            case rel => exact ⟨f11, HB12, HK⟩
                        case rest =>
                          obtain ⟨f13, HB13, M13⟩ := hcut
                          clear HB12 M11 d1 c1 hcc1 hcc2
                          go_wp2_with fail
                          refine (eat_gen [61] _ b s p11 f13 v HB13.out.rd (by decide) (by simp)).mono ?_
                          rintro e w14 ⟨x, rfl, hk14, p14, h14, hx1, hx2⟩
                          have HB14 := Lib.hid (HB13.out.step hk14 h14 HB13.out.al)
                          clear hk14 h14 HB13
                          go_upto_if 82 with fail
                          go_cut [] (fun wx => ∃ (kd : Int) (vl : B) (f : Flt) (p : Nat), kd ≠ 0 ∧ Hid (TBox wr0 wx b tb s v kd nm vl f p) ∧ Hid (Mid good T f ((pMust [93] (s.drop p) p).then (tAttr3 kd nm vl))))
                          case first =>
                            cases x with
                            | false =>
                              obtain ⟨rfl, hno⟩ := hx2 rfl
                              have HK : Hid (Mid good T f13 ((pMust [93] (s.drop p14) p14).then (tAttr3 4 nm []))) := Lib.hid (M13.out.eq (fun hf => by unfold tAttr2; rw [if_neg (by rw [hno hf]; simp)]))
                              clear hx1 hx2 hno
                              go_wp2_with fail
                              go_meet
                              case rel => exact ⟨4, [], f13, p14, by decide, HB14, HK⟩
                            | true =>
                              obtain ⟨hf, hyes, rfl⟩ := hx1 rfl
                              have HK : Hid (Mid good T f13 ((sName (s.drop (p11 + [61].length)) (p11 + [61].length)).then fun x => (pMust [93] x.2.1 x.2.2).then (tAttr3 5 nm x.1))) := Lib.hid (M13.out.eq (fun _ => by unfold tAttr2; rw [if_pos hyes, List.drop_drop]; rfl))
                              clear hx1 hx2 hyes
                              go_wp2_with fail
                              refine (sname_gen _ b s (p11 + [61].length) f13 v HB14.out.rd HB14.out.al).mono ?_
                              rintro e w15 ⟨vl, rfl, hk15, f15, p15, h15, hg15, hnl15, hs15⟩
                              have HB15 := Lib.hid (HB14.out.step hk15 h15 (fun hh => (hg15 hh).1))
                              have M15 := Lib.hid (HK.out.step (k := fun x => (pMust [93] x.2.1 x.2.2).then (tAttr3 5 nm x.1)) hs15.out)
                              clear hk15 h15 hg15 hs15 HB14 HK
                              have d0 := cellIn HB15.out.box 0 rfl
                              have d2 := cellIn HB15.out.box 2 rfl
                              have e0 := freeIn HB15.out.box 0
                              have e2 := freeIn HB15.out.box 2
                              have HB16 := Lib.hid (HB15.out.set02 5 vl)
                              go_wp2_with fail
                              go_meet
                              case rel => exact ⟨5, vl, f15, p15, by decide, HB16, M15⟩
                          case rest =>
                            obtain ⟨kd, vl, f16, p16, hkd, HB16, M16⟩ := hcut
                            clear HB14 M13 hx1 hx2
                            go_wp2_with fail
                            refine (need_gen [93] _ b s p16 f16 v HB16.out.rd HB16.out.al (by decide) (by simp)).mono ?_
                            rintro e w17 ⟨rfl, hk17, f17, p17, h17, hg17, hs17⟩
                            have HB17 := Lib.hid (HB16.out.step hk17 h17 hg17)
                            have S17 := Lib.hid (Mid.fin (M16.out.step (k := tAttr3 kd nm vl) hs17.out))
                            clear hk17 h17 hg17 hs17
                            go_wp2_with fail
                            go_meet
                            case rel => exact ⟨kd, nm, vl, f17, p17, HB17, .inr ⟨hkd, S17⟩⟩
            case rest =>
              obtain ⟨kd, nm, vl, f7, p7, HB7, hcase⟩ := hcut
              clear HB6
              have d0 := cellIn HB7.out.box 0 rfl
              rcases hcase with ⟨rfl, rfl, rfl, HTN⟩ | ⟨hkd, HS7⟩
              · have HML : Hid (Mid f0 R good (if sb = true then .ok (ts, s.drop p7, p7) else .bad ⟨2, p7⟩)) := Lib.hid (HMT.out.eq (fun _ => by rw [HTN.out]; rfl))
                have HL7 := Lib.hid (HL.out.step hbw HB7.out.kept HB7.out.rd (fun _ => rfl) (fun _ => hts6))
                go_wp2_with fail
                go_meet
                case rel => exact ⟨ts, sb, good, p7, rfl, HL7, HML⟩
              · have hkdI : (kd == 0) = false := by simpa using hkd
                have HM7 := Lib.hid (HMT.out.step (k := tKeep n ts sb (s.drop p) p) HS7.out)
                have hpp : f7.err = 0 → p < p7 := fun hh => by
                  rcases HS7.out.2 rfl with ⟨_, h⟩ | ⟨h, _⟩
                  · exact test_far (HT.out.trans h)
                  · exact absurd hh h
                have c1 := HB7.out.rd.c1
                clear HMT HS7 HT
                go_upto_region 22 with fail
                go_cut [98] (fun c wx => wx = wc ∧ ∃ cc : Bool, c = .bool cc ∧ (cc = true → f7.err = 0 ∧ ts.length = 6) ∧ (cc = false → f7.err = 0 → ts.length < 6))
                case first =>
                  by_cases hf : f7.err = 0
                  · have hfe : ((f7.err : Int) == 0) = true := by simp [hf]
                    by_cases h6 : ts.length = 6
                    · have h6I : (6 : Int) ≤ (ts.length : Int) := by omega
                      have H6 := Lib.hid h6
                      clear h6
                      go_wp2_with fail
                      refine (ok_is true _ b s p7 f7 v HB7.out.rd hfe).mono ?_
                      rintro e w13 ⟨rfl, rfl⟩
                      go_wp2_with fail
                      go_meet
                      case rel => exact ⟨rfl, true, by first | rfl | (simp; omega), fun _ => ⟨hf, H6.out⟩, fun hh => by cases hh⟩
                    · have h6I : ¬ (6 : Int) ≤ (ts.length : Int) := by omega
                      go_wp2_with fail
                      refine (ok_is true _ b s p7 f7 v HB7.out.rd hfe).mono ?_
                      rintro e w13 ⟨rfl, rfl⟩
                      go_wp2_with fail
                      go_meet
                      case rel => exact ⟨rfl, false, by first | rfl | (simp; omega), fun hh => (by cases hh), fun _ _ => by omega⟩
                  · have hfe : ((f7.err : Int) == 0) = false := by simp; omega
                    go_wp2_with fail
                    refine (ok_is false _ b s p7 f7 v HB7.out.rd hfe).mono ?_
                    rintro e w13 ⟨rfl, rfl⟩
                    go_wp2_with fail
                    go_meet
                    case rel => exact ⟨rfl, false, rfl, fun hh => (by cases hh), fun _ hh => absurd hh hf⟩
                case rest =>
                  obtain ⟨rfl, cc, rfl, hcc1, hcc2⟩ := hcut
                  obtain ⟨t, HTT⟩ : ∃ t : PTest, Hid ((⟨kd, nm, vl⟩ : PTest) = t) := ⟨_, Lib.hid rfl⟩
                  rw [HTT.out] at HM7
                  go_upto_if 98 with fail
                  go_cut [] (fun wx => ∃ f, Hid (TBox wr0 wx b tb s v kd nm vl f p7) ∧ Hid (Mid f0 R f (sTestsL n (ts ++ [t]) true (s.drop p7) p7)) ∧ (f.err = 0 → ts.length < 6 ∧ p < p7))
                  case first =>
                    cases cc with
                    | true =>
                      obtain ⟨hf, h6⟩ := hcc1 rfl
                      have HK : Hid (tKeep n ts sb (s.drop p) p (some t, s.drop p7, p7) = .bad ⟨5, p7⟩) := Lib.hid (by simp only [tKeep]; rw [if_pos h6])
                      clear hcc1 hcc2 h6
                      go_wp2_with fail
                      refine (stop_good 5 p7 _ b s p7 f7 v HB7.out.rd hf).mono ?_
                      rintro e w13 ⟨rfl, hk13, h13⟩
                      have HB13 := Lib.hid (HB7.out.step hk13 h13 (fun hh => absurd hh (by simp)))
                      clear hk13 h13
                      go_wp2_with fail
                      go_meet
                      case rel => exact ⟨⟨5, p7⟩, HB13, Lib.hid (HM7.out.kill hf HK.out (by simp)), fun hh => absurd hh (by simp)⟩
                    | false =>
                      have HK : Hid (Mid f0 R f7 (sTestsL n (ts ++ [t]) true (s.drop p7) p7)) := Lib.hid (HM7.out.eq (fun hf => by
                        have := hcc2 rfl hf
                        simp only [tKeep]; rw [if_neg (by omega)]))
                      have hlt6 : f7.err = 0 → ts.length < 6 ∧ p < p7 := fun hh => ⟨hcc2 rfl hh, hpp hh⟩
                      clear hcc1 hcc2
                      go_wp2_with fail
                      go_meet
                      case rel => exact ⟨f7, HB7, HK, hlt6⟩
                  case rest =>
                    obtain ⟨f8, HB8, M8, h86⟩ := hcut
                    obtain ⟨w8, hw8⟩ : ∃ x, x = wc := ⟨_, rfl⟩
                    subst hw8
                    clear HB7 HM7 d0 c1 hcc1 hcc2 hpp
                    have how := owns_kept HL.out.own HB8.out.kept (fun k hk hs => by have := (HL.out.own.lt k hk).1; omega)
                    have HOW := Lib.hid how
                    have hbs : w.heap.size ≤ w8.heap.size := Nat.le_trans HL.out.kept.size HB8.out.kept.size
                    have d0 := cellIn HB8.out.box 0 rfl
                    have d1 := cellIn HB8.out.box 1 rfl
                    have d2 := cellIn HB8.out.box 2 rfl
                    clear how
                    go_wp2_with (at_builtin; refine wpList_append_lies _ rfl _ _ _ rfl w.heap.size 77 i0 _ 3 40 Try.underlying73 hi0 hz0 hz1 hz2 rfl (by omega) _ ts.length _ (by rfl) (HOW.out.alloc _) ⟨w8.heap.size, 0, none⟩ 1 1 [.int .i64 kd, .string (str nm), .string (str vl)] (by rfl) (by rfl) (World.news_of_block (cs := #[.int .i64 kd, .string (str nm), .string (str vl)]) (t := 77) (fr := (0, 0)) (heap_alloc_new w8 _)) (by simp [Value.oneCell']) (by omega) (by unfold maxLen; omega) (by omega) (by simp; omega) (w8.heap.size + 1) (by simp) ?_; intro gg cap w15 hown15 hgrow15 hat15 hlt15)
                    have hk15 : Kept (fun k => (Value.slice lo ts.length lc).ownBlock = some k) w8 w15 := ((Kept.refl _ w8).alloc _).grown ⟨hgrow15.os, hgrow15.tape, hgrow15.output, hgrow15.size, hgrow15.block⟩ (fun k hk => .inl hk)
                    have hob : ∀ k, (Value.slice lo ts.length lc).ownBlock = some k → w.heap.size ≤ k := fun k hk => (HOW.out.lt k hk).1
                    have HL15 : Hid (RTLoop w w15 b s v (.slice (some ⟨gg, 0, none⟩) (ts.length + 1) cap) (ts ++ [t]) f8 p7) := Lib.hid ⟨HB8.out.rd.kept hk15 (fun hs => by have := hob b hs; omega),
                      (HL.out.kept.trans HB8.out.kept).trans' hk15 (fun k hk hs => by have := hob k hs; omega), HB8.out.al, by
                        have := hown15
                        rw [← HTT.out]
                        simpa [testCells] using this, by simp; omega, fun hh => by have := (h86 hh).1; simp; omega⟩
                    have hl7 := HB8.out.rd.2.1
                    clear hk15 hob hown15 hgrow15 hat15 d0 d1 d2
                    go_wp2_with fail
                    by_cases hf : f8.err = 0
                    · obtain ⟨h87, h88⟩ := h86 hf
                      go_roundg (s.length - p7 + 1)
                      case measure => omega
                      case rel => exact ⟨ts ++ [t], true, f8, p7, n, rfl, HL15, M8, fun _ => ⟨by omega, rfl⟩⟩
                    · go_roundg 0
                      case measure => omega
                      case rel => exact ⟨ts ++ [t], true, f8, p7, n, rfl, HL15, M8, fun hh => absurd hh hf⟩
          · have hf' : ((f.err : Int) == 0) = false := by simp; omega
            go_wp2_with fail
            refine (ok_is false _ b s p f v HL.out.rd hf').mono ?_
            rintro e w5 ⟨rfl, rfl⟩
            go_wp2_with fail
            go_meet
            case rel => exact ⟨ts, sb, f, p, rfl, HL, Lib.hid (HM.out.dead hf)⟩
end Go.Proofs.Ytplbdlgmjehckab
