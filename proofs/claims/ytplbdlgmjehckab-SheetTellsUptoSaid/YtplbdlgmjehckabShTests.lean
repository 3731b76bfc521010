/-
  The reader of sheets: a part's tests.
-/
import Derived.Test.YtplbdlgmjehckabShTest
import Derived.Deep.AppendLies
import Derived.Deep.LoopGhost
namespace Go.Proofs.Ytplbdlgmjehckab
open Go.RowKit
set_option linter.unusedVariables false
set_option linter.unusedSimpArgs false

theorem test_one (t : PTest) : ∀ u ∈ testCells t, u.oneCell' = true := by
  intro u hu
  simp only [testCells, List.mem_cons, List.not_mem_nil, or_false] at hu
  rcases hu with rfl | rfl | rfl <;> rfl
theorem sTestsL_step {f : Nat} {ts : List PTest} {q : Bool} {l : B} {a : Nat} {r : Ans (List PTest × B × Nat)} (h : sTestsL (f + 1) ts q l a = r) :
    ((sTest l a).then fun x => match x.1 with
    | none => if q then .ok (ts, l, a) else .bad ⟨2, a⟩
    | some t => if ts.length = 6 then .bad ⟨5, x.2.2⟩ else sTestsL f (ts ++ [t]) true x.2.1 x.2.2) = r := by
  rw [← h, sTestsL]
  cases sTest l a with
  | bad f => rfl
  | ok x =>
    obtain ⟨t, l1, a1⟩ := x
    cases t <;> rfl

/-- at the head of the loop over a part's tests -/
structure TLoop (w wr : World) (b : Nat) (s : B) (base : Nat) (r : Ans (List PTest × B × Nat)) (l : Value) (ts : List PTest) (q : Bool) (at' : Nat) : Prop where
  rd : SdAt wr b s at'
  own : wr.ownsRow base 77 3 l ts.length (ts.map testCells).flatten
  few : ts.length ≤ 6
  kept : Kept (· = b) w wr
  rest : ∃ f, (s.drop at').length < f ∧ sTestsL f ts q (s.drop at') at' = r

set_option maxRecDepth 100000 in
set_option maxHeartbeats 3200000 in
theorem stests_sum (w : World) (b : Nat) (s : B) (at_ : Nat) (h : SdAt w b s at_) :
    Calls Try.prog 60 #[.pointer (some ⟨b, 0, none⟩)] w (SSum (sTests (s.drop at_) at_) w b s (fun w' ts e => ∃ v, e = .returned v ∧ TestsIn w' (fun k => k < w.heap.size) v ts)) := by
  obtain ⟨r, HR⟩ : ∃ r, Hid (sTests (s.drop at_) at_ = r) := ⟨_, rfl⟩
  rw [HR.out]
  obtain ⟨i0, hi0, hz0, hz1, hz2⟩ := info_parts info_test
  obtain ⟨base, HBASE⟩ : ∃ base, Hid (w.heap.size = base) := ⟨_, rfl⟩
  have hbb : b < base := by have := h.lt; have := HBASE.out; omega
  have H := Lib.hid h
  have hl := h.2.1
  have hmx := h.2.2
  clear h
  go_enter Try.func60, Try.ntmps60
  go_wp2_with fail
  obtain ⟨q0, HQ0⟩ : ∃ q0, Hid (([42] : B).isPrefixOf (s.drop at_) = q0) := ⟨_, rfl⟩
  refine (seat_is q0 [42] _ _ _ _ H.out HQ0.out).mono ?_
  rintro e w1 ⟨rfl, hk1, h1⟩
  obtain ⟨at1, HA1⟩ : ∃ a, Hid ((at_ + if q0 then ([42] : B).length else 0) = a) := ⟨_, rfl⟩
  rw [HA1.out] at h1
  have H1 := Lib.hid h1
  have HK1 := Lib.hid hk1
  have hl1 := h1.2.1
  obtain ⟨n0, HN0⟩ : ∃ n0, Hid ((!q0 && !(nameLen (s.drop at1) == 0)) = n0) := ⟨_, rfl⟩
  have c0 := h1.c0
  have c1 := h1.c1
  clear h1 hk1
  go_upto_region 3 with fail
  go_cut [3, 39] (fun l x wx => x = .bool n0 ∧ Qt w1 wx ∧ wx.ownsRow base 77 3 l 0 [])
  case first =>
    cases q0 with
    | true =>
      obtain rfl : n0 = false := by rw [← HN0.out]; rfl
      go_wp2_with fail
      go_quiet (fail)
      go_wp2_with fail
      go_meet
      case rel => exact ⟨rfl, ⟨_, rfl⟩, World.ownsRow_nil _ _ _ _⟩
    | false =>
      by_cases hlt : at1 < s.length
      · have e0 : decide ((at1 : Int) < (s.length : Int)) = true := by simp; omega
        have e5 : IntKind.i64.wrap ((at1 : Int) + 1) = (at1 : Int) + 1 := IntWalk.i64_in _ (by omega)
        have e6 : (0 : Int) ≤ (at1 : Int) + 1 := by omega
        have e7 : ((at1 : Int) + 1).toNat = at1 + 1 := by omega
        have e8 : (at1 : Int) + 1 ≤ (s.length : Int) := by omega
        have e9 : (at1 : Int) ≤ (at1 : Int) + 1 := by omega
        have HT : Hid (∀ x, x = 1 → named ((s.drop at1).take x) = n0) := Lib.hid (fun x hx => by
          subst hx
          rw [← HN0.out]
          by_cases h0 : nameLen (s.drop at1) = 0
          · have := named_take_no (l := s.drop at1) (by rw [h0, List.length_drop]; omega)
            rw [h0] at this
            simpa [h0] using this
          · rw [show (1 : Nat) = 0 + 1 from rfl, named_take (by omega) (by omega)]
            simp [h0])
        go_wp2_with fail
        go_quiet ((go_at_call 49; exact Calls.quiet_of_same (named_is n0 _ _ (HT.out _ (by omega)))))
        go_wp2_with fail
        go_meet
        case rel => exact ⟨rfl, ⟨_, rfl⟩, World.ownsRow_nil _ _ _ _⟩
      · have e0 : decide ((at1 : Int) < (s.length : Int)) = false := by simp; omega
        obtain rfl : n0 = false := by
          rw [← HN0.out, List.drop_eq_nil_of_le (by omega)]; rfl
        go_wp2_with fail
        go_quiet (fail)
        go_wp2_with fail
        go_meet
        case rel => exact ⟨rfl, ⟨_, rfl⟩, World.ownsRow_nil _ _ _ _⟩
  case rest =>
    obtain ⟨rfl, hq2, how⟩ := hcut
    have HOW := Lib.hid how
    clear how
    have H2 := Lib.hid (H1.out.quiet hq2)
    have HK2 := Lib.hid (HK1.out.trans (hq2.kept _))
    clear c0 c1 hq2
    have HE : Hid ((if n0 then (sName (s.drop at1) at1).then fun x => sTestsL (x.2.1.length + 1) [⟨1, x.1, []⟩] true x.2.1 x.2.2 else sTestsL ((s.drop at1).length + 1) [] q0 (s.drop at1) at1) = r) := Lib.hid (by
      rw [← HR.out, ← HN0.out, ← HA1.out]
      unfold sTests sHead
      have hq := HQ0.out
      cases q0 with
      | true => rw [if_pos hq]; simp
      | false =>
        rw [hq]
        by_cases h0 : nameLen (s.drop at_) = 0
        · simp [h0]
        · simp [h0]
          cases sName (s.drop at_) at_ with
          | bad f => rfl
          | ok x => rfl)
    go_upto_if 39 with fail
    go_cut [3, 4] (fun l q wx => ∃ ts qb at', q = .bool qb ∧ TLoop w wx b s base r l ts qb at')
    case first =>
      cases n0 with
      | false =>
        have hE := HE.out
        rw [if_neg (by simp)] at hE
        have HE' := Lib.hid hE
        clear hE
        go_wp2_with fail
        go_meet
        case rel => exact ⟨[], q0, at1, rfl, H2.out, HOW.out, by simp, HK2.out, _, by omega, HE'.out⟩
      | true =>
        have hE := HE.out
        rw [if_pos rfl] at hE
        have HE' := Lib.hid hE
        clear hE
        go_wp2_with fail
        refine (sname_sum _ _ _ _ H2.out).mono ?_
        rintro e w3 (⟨f, rfl, hk3, hp3⟩ | ⟨nm, at3, rfl, hk3, h3, hp3⟩)
        · have hR : Hid (r = .bad f) := Lib.hid (by rw [← HE'.out, hp3.out]; rfl)
          have K3 := Lib.hid (HK2.out.trans hk3)
          clear hk3
          go_wp2_with fail
          exact ⟨rfl, .bad K3.out hR.out⟩
        · have hR : Hid (sTestsL ((s.drop at3).length + 1) [⟨1, nm, []⟩] true (s.drop at3) at3 = r) := Lib.hid (by rw [← HE'.out, hp3.out]; rfl)
          have K3 := Lib.hid (HK2.out.trans hk3)
          have H3 := Lib.hid h3
          have how3 := owns_kept HOW.out hk3 (fun k hk => by have := (HOW.out.lt k hk).1; omega)
          have hsz : base ≤ w3.heap.size := by have := K3.out.size; have := HBASE.out; omega
          clear hk3 h3
          go_wp2_with (at_builtin; refine wpList_append_lies _ rfl _ _ _ rfl base 77 i0 _ 3 40 Try.underlying73 hi0 hz0 hz1 hz2 rfl (by omega) _ 0 [] (by rfl) (how3.alloc _) ⟨w3.heap.size, 0, none⟩ 1 1 (testCells ⟨1, nm, []⟩) (by rfl) (by rfl) (World.news_of_block (cs := (testCells ⟨1, nm, []⟩).toArray) (t := 77) (fr := (0, 0)) (heap_alloc_new w3 _)) (test_one _) (by omega) (by unfold maxLen; omega) (by omega) (by simp; omega) (w3.heap.size + 1) (by simp) ?_; intro gg cap w4 hown4 hgrow4 hat4 hlt4)
          go_meet
          case rel => exact ⟨[⟨1, nm, []⟩], true, at3, rfl, own_rd H3.out hbb how3 hgrow4, hown4, by simp, own_grow K3.out HBASE.out how3 hgrow4, _, by omega, hR.out⟩
    case rest =>
      obtain ⟨ts0, qb0, at0, rfl, hL0⟩ := hcut
      have HL0 := Lib.hid hL0
      clear hL0
      go_upto_block 0 with fail
      go_cut [3, 4] (fun l q wx => ∃ ts qb at', q = .bool qb ∧ TLoop w wx b s base r l ts qb at' ∧ Hid (sTest (s.drop at') at' = .ok (none, s.drop at', at')))
      case first =>
        go_wp2_with fail
        go_loopg [3, 4] (s.length - at0) (fun k l q wr => ∃ ts qb at', q = .bool qb ∧ TLoop w wr b s base r l ts qb at' ∧ k = s.length - at')
        case atStart => exact ⟨ts0, qb0, at0, rfl, HL0.out, rfl⟩
        case round =>
          obtain ⟨ts, qb, at', rfl, hL, hk⟩ := hrel
          have HL := Lib.hid hL
          have hfew := hL.few
          have hl' := hL.rd.2.1
          clear hL
          go_wp2_with fail
          refine (stest_sum _ _ _ _ HL.out.rd).mono ?_
          rintro e w5 (⟨f, rfl, hk5, hp5⟩ | ⟨t, at5, rfl, hk5, h5, hp5⟩)
          · have hR : Hid (r = .bad f) := Lib.hid (by
              obtain ⟨g, hg, hr⟩ := HL.out.rest
              cases g with
              | zero => omega
              | succ g => rw [← sTestsL_step hr, hp5.out]; rfl)
            have K5 := Lib.hid (HL.out.kept.trans hk5)
            clear hk5
            go_wp2_with fail
            exact ⟨rfl, .bad K5.out hR.out⟩
          · have H5 := Lib.hid h5
            have K5 := Lib.hid (HL.out.kept.trans hk5)
            have how5 := owns_kept HL.out.own hk5 (fun k hk => by have := (HL.out.own.lt k hk).1; omega)
            have hsz : base ≤ w5.heap.size := by have := K5.out.size; have := HBASE.out; omega
            have HOW5 := Lib.hid how5
            clear hk5 h5 how5
            cases t with
            | none =>
              obtain ⟨ht1, ht2⟩ : s.drop at' = s.drop at5 ∧ at5 = at' := by
                obtain ⟨t, h1, h2, _, h3, _⟩ := test_loc hp5.out
                have := h3 rfl
                subst this
                exact ⟨h1, h2⟩
              subst ht2
              rw [show testV none = .tuple #[.agg #[.int .i64 0, .string (str []), .string (str [])], .bool false] from rfl]
              go_wp2_with fail
              go_meet
              case rel => exact ⟨ts, qb, at5, rfl, ⟨H5.out.alloc _, HOW5.out.alloc _, HL.out.few, K5.out.alloc _, HL.out.rest⟩, hp5⟩
            | some t =>
              have hlt : at' < at5 := by
                obtain ⟨t, h1, h2, h3, _⟩ := test_loc hp5.out
                have := h3 (by simp)
                omega
              have hl5 := H5.out.2.1
              rw [show testV (some t) = .tuple #[.agg #[.int .i64 t.kind, .string (str t.name), .string (str t.val)], .bool true] from rfl]
              by_cases h6 : ts.length = 6
              · have e6 : ((ts.length : Int) == 6) = true := by simp; omega
                have hR : Hid (r = .bad ⟨5, at5⟩) := Lib.hid (by
                  obtain ⟨g, hg, hr⟩ := HL.out.rest
                  cases g with
                  | zero => omega
                  | succ g => rw [← sTestsL_step hr, hp5.out, Ans.ok_then]; simp only; rw [if_pos h6])
                clear h6
                obtain ⟨vo, vc, hv⟩ : ∃ vo vc, u3 = .slice vo ts.length vc := by
                  rcases HOW5.out.2 with ⟨h, hn⟩ | ⟨g, cap, cur, h, _⟩
                  · exact ⟨none, 0, by rw [h, hn]⟩
                  · exact ⟨_, cap, h⟩
                subst hv
                go_wp2_with fail
                refine (sfail_any 5 _ _ _ _ (H5.out.alloc _)).mono ?_
                rintro e w9 ⟨rfl, hq9⟩
                go_wp2_with fail
                exact ⟨rfl, .bad ((K5.out.alloc _).trans (hq9.kept _)) hR.out⟩
              · have e6 : ((ts.length : Int) == 6) = false := by simp; omega
                have hR : Hid (∃ g, (s.drop at5).length < g ∧ sTestsL g (ts ++ [t]) true (s.drop at5) at5 = r) := Lib.hid (by
                  obtain ⟨g, hg, hr⟩ := HL.out.rest
                  cases g with
                  | zero => omega
                  | succ g =>
                    have := sTestsL_step hr
                    rw [hp5.out, Ans.ok_then] at this
                    simp only at this
                    rw [if_neg h6] at this
                    exact ⟨g, by rw [List.length_drop] at hg ⊢; omega, this⟩)
                obtain ⟨vo, vc, hv⟩ : ∃ vo vc, u3 = .slice vo ts.length vc := by
                  rcases HOW5.out.2 with ⟨h, hn⟩ | ⟨g, cap, cur, h, _⟩
                  · exact ⟨none, 0, by rw [h, hn]⟩
                  · exact ⟨_, cap, h⟩
                subst hv
                obtain ⟨tk, tn, tv⟩ := t
                obtain ⟨wb, HWB⟩ : ∃ wb, Hid (w5.alloc (.cells #[.int .i64 tk, .string (str tn), .string (str tv)] 77 (0, 0)) = wb) := ⟨_, rfl⟩
                have H6 : Hid (SdAt wb b s at5) := Lib.hid (by rw [← HWB.out]; exact H5.out.alloc _)
                have K6 : Hid (Kept (· = b) w wb) := Lib.hid (by rw [← HWB.out]; exact K5.out.alloc _)
                have how6 : wb.ownsRow base 77 3 (.slice vo ts.length vc) ts.length (ts.map testCells).flatten := by rw [← HWB.out]; exact HOW5.out.alloc _
                have hsz6 : base ≤ wb.heap.size := by rw [← HWB.out]; simp; omega
                have hn6 : wb.heap[w5.heap.size]? = some (.cells #[.int .i64 tk, .string (str tn), .string (str tv)] 77 (0, 0)) := by rw [← HWB.out]; exact newIn _ _
                have n0 := cellIn hn6 0 rfl
                have n1 := cellIn hn6 1 rfl
                have n2 := cellIn hn6 2 rfl
                have hfew6 : ts.length + 1 ≤ 6 := by omega
                clear hn6 h6
                go_upto_region 7 with fail
                rw [HWB.out]
                go_wp2_with (at_builtin; refine wpList_append_lies _ rfl _ _ _ rfl base 77 i0 _ 3 40 Try.underlying73 hi0 hz0 hz1 hz2 rfl (by omega) _ ts.length _ (by rfl) (how6.alloc _) ⟨wb.heap.size, 0, none⟩ 1 1 (testCells ⟨tk, tn, tv⟩) (by rfl) (by rfl) (World.news_of_block (cs := (testCells ⟨tk, tn, tv⟩).toArray) (t := 77) (fr := (0, 0)) (heap_alloc_new wb _)) (test_one _) (by omega) (by unfold maxLen; omega) (by omega) (by simp; omega) (wb.heap.size + 1) (by simp) ?_; intro gg cap w4 hown4 hgrow4 hat4 hlt4)
                go_roundg (s.length - at5)
                case measure => omega
                case rel => exact ⟨ts ++ [⟨tk, tn, tv⟩], true, at5, rfl, ⟨own_rd H6.out hbb how6 hgrow4, by simpa [testCells] using hown4, by simpa using hfew6, own_grow K6.out HBASE.out how6 hgrow4, hR.out⟩, rfl⟩
      case rest =>
        obtain ⟨ts, qb, at', rfl, hL, HT⟩ := hcut
        have hown := hL.own
        have HL := Lib.hid hL
        have HR' : Hid ((if qb then Ans.ok (ts, s.drop at', at') else .bad ⟨2, at'⟩) = r) := Lib.hid (by
          obtain ⟨f, hf, hr⟩ := HL.out.rest
          cases f with
          | zero => omega
          | succ f =>
            have := sTestsL_step hr
            rw [HT.out] at this
            exact this)
        clear hL
        cases qb with
        | true =>
          have hR : Hid (r = .ok (ts, s.drop at', at')) := Lib.hid (by rw [← HR'.out]; rfl)
          go_wp2_with fail
          go_ret
          refine .inr ⟨ts, at', ⟨_, rfl, rowsAt_of_owns test_rows (by simp) hown, fun k hk => ⟨?_, (hown.lt k hk).2⟩⟩, HL.out.kept, HL.out.rd, hR⟩
          have := (hown.lt k hk).1
          have := HBASE.out
          omega
        | false =>
          have hR : Hid (r = .bad ⟨2, at'⟩) := Lib.hid (by rw [← HR'.out]; rfl)
          go_wp2_with fail
          refine (sfail_any 2 _ _ _ _ HL.out.rd).mono ?_
          rintro e w9 ⟨rfl, hq9⟩
          go_wp2_with fail
          exact ⟨rfl, .bad (HL.out.kept.trans (hq9.kept _)) hR.out⟩

end Go.Proofs.Ytplbdlgmjehckab
