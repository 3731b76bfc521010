/-
  The document's answer: items.
-/
import Derived.Test.YtplbdlgmjehckaaRfElem
import Derived.Test.YtplbdlgmjehckaaPgItems
namespace Go.Proofs.Ytplbdlgmjehckaa
open Go.RowKit
set_option linter.unusedVariables false
set_option linter.unusedSimpArgs false

structure RItemsLoop (w wr : World) (base b : Nat) (s : B) (v : Value) (parent : Int) (deep fuel : Nat) (r : Ans (List PNode × B × Nat)) (k : Nat) (at' : Nat) (v' : Value) (ns' : List PNode) : Prop where
  wk : Wk wr base b s at' v' ns'
  kept : Kept (RdrS b v) w wr
  own : ∀ k, v'.ownBlock = some k → v.ownBlock = some k ∨ w.heap.size ≤ k
  rest : ∃ f, f + 1 ≤ fuel ∧ s.length - at' ≤ f ∧ pItems (f + 1) parent deep ns' (s.drop at') at' = r
  num : k = s.length - at' + 1
def RItemsDead (w wr : World) (b : Nat) (s : B) (v : Value) (r : Ans (List PNode × B × Nat)) : Prop :=
  ∃ f at' v', r = .bad f ∧ f.err ≠ 0 ∧ WkAt wr b s at' f v' ∧ Kept (RdrS b v) w wr
theorem rtext_no {c : UInt8} (h : pTextOk c = false) : ((c.toNat : Int) != 10) = true ∧ ¬ (c.toNat : Int) = 10 ∧ ((c.toNat : Int) < 32 ∨ (32 ≤ (c.toNat : Int) ∧ 126 < (c.toNat : Int))) := textOk_no h

set_option maxRecDepth 100000 in
set_option maxHeartbeats 3200000 in
theorem ritems_any (s : B) (base b : Nat) (fuel : Nat) : ∀ (parent : Int) (deep : Nat) (ns : List PNode) (at_ : Nat) (v : Value) (w : World), s.length - at_ < fuel → deep ≤ 21 → Wk w base b s at_ v ns →
    Calls Try.prog 21 #[.pointer (some ⟨b, 0, none⟩), .int .i64 parent, .int .i64 (deep : Int)] w (RItemsEnds w base b s v (pItems fuel parent deep ns (s.drop at_) at_)) := by
  induction fuel using Nat.strongRecOn with
  | _ fuel ih =>
  intro parent deep ns at_ v w hF hdeep h
  obtain ⟨r, HR⟩ : ∃ r, Hid (pItems fuel parent deep ns (s.drop at_) at_ = r) := ⟨_, rfl⟩
  rw [HR.out]
  have IH := Lib.hid ih
  have hstart : RItemsLoop w w base b s v parent deep fuel r (s.length - at_ + 1) at_ v ns := by
    cases fuel with
    | zero => omega
    | succ f => exact ⟨h, Kept.refl _ _, fun k hk => .inl hk, ⟨f, by omega, by omega, HR.out⟩, rfl⟩
  have HS := Lib.hid hstart
  clear ih hstart h
  go_enter Try.func21, Try.ntmps21
  go_wp2_with fail
  go_loopg [] (s.length - at_ + 1) (fun k wr => (RItemsDead w wr b s v r ∧ k = 0) ∨ ∃ at' v' ns', RItemsLoop w wr base b s v parent deep fuel r k at' v' ns')
  case atStart => exact .inr ⟨_, _, _, HS.out⟩
  case round =>
    rcases hrel with ⟨⟨f, at', v', hrb, hfe, hwk, hkd⟩, rfl⟩ | ⟨at', v', ns', hL⟩
    · have HW := Lib.hid hwk
      have HKD := Lib.hid hkd
      have hfe' : ((f.err : Int) == 0) = false := by simp; omega
      have c0 := hwk.c0
      have c1 := hwk.c1
      clear hwk hkd
      subst hrb
      go_wp2_with fail
      go_quiet ((go_at_call 22; exact Calls.quiet_of_same (ok_is false _ _ _ _ _ _ HW.out hfe')))
      go_wp2_with fail
      go_end0
      exact ⟨rfl, HKD.out.drewN _, _, _, HW.out.drewN _⟩
    · have HL := Lib.hid hL
      have hr := hL.wk.rd
      have c0 := hr.c0
      have c1 := hr.c1
      have f1 := hr.free 1
      have hl := hr.2.1
      have hm := hr.2.2
      obtain ⟨f, hf1, hf2, hR⟩ := hL.rest
      have hnum := hL.num
      have H1 := Lib.hid hr
      clear hL hr
      by_cases hlt : at' < s.length
      · rw [pItems_eq _ _ _ _ _ _ hlt] at hR
        cases hm1 : ([60, 47] : B).isPrefixOf (s.drop at') with
        | true =>
          rw [hm1, if_pos rfl] at hR
          subst hR
          have HM1 := Lib.hid hm1
          clear hm1
          go_wp2_with fail
          go_quiet (first | (go_at_call 22; exact Calls.quiet_of_same (ok_is true _ b s at' good v' H1.out rfl)) | (go_at_call 29; exact Calls.quiet_of (on_good [60, 47] true _ b s at' good v' H1.out rfl (by decide) HM1.out)))
          go_wp2_with fail
          go_end0
          exact ⟨v', rfl, HL.out.kept.drewN _, HL.out.wk.quiet ⟨nq, rfl⟩, rfl, HL.out.own⟩
        | false =>
          rw [hm1, if_neg (by simp)] at hR
          have HM1 := Lib.hid hm1
          clear hm1
          cases hm2 : noteBegin.isPrefixOf (s.drop at') with
          | true =>
            rw [hm2, if_pos rfl] at hR
            have hp4 : at' + 4 ≤ s.length := by
              have := (List.isPrefixOf_iff_prefix.1 hm2).length_le
              rw [List.length_drop] at this
              simp only [noteBegin, List.length_cons, List.length_nil] at this
              omega
            have HM2 := Lib.hid hm2
            have HR2 := Lib.hid hR
            clear hm2 hR
            go_wp2_with fail
            go_quiet (first | (go_at_call 22; exact Calls.quiet_of_same (ok_is true _ b s at' good v' H1.out rfl)) | (go_at_call 29; exact Calls.quiet_of (on_good [60, 47] false _ b s at' good v' H1.out rfl (by decide) HM1.out)))
            go_wp2_with fail
            refine (on_good noteBegin true _ b s at' good v' (H1.out.drewN nq) rfl (by decide) HM2.out).mono ?_
            rintro e w1 ⟨rfl, hq1⟩
            have hqq : Qt wr w1 := Qt.trans ⟨nq, rfl⟩ hq1
            have h1 := HL.out.wk.quiet hqq
            have hk1 := HL.out.kept.trans (hqq.kept _)
            clear c0 c1 f1 hq1 hqq
            have c0 := h1.rd.c0
            have c1 := h1.rd.c1
            have f1 := h1.rd.free 1
            have HR1 := Lib.hid h1
            have HK1 := Lib.hid hk1
            have h4 : WkAt (w1.setCell ⟨b, 1, none⟩ (.int .i64 ((at' : Int) + 4))) b s (at' + 4) good v' := h1.rd.set (by omega) (by omega)
            have H4 := Lib.hid h4
            clear h1 hk1 h4
            cases hf : findSub noteEnd (s.drop (at' + 4)) with
            | none =>
              have hr0 : r = .bad ⟨2, s.length⟩ := by rw [← HR2.out, hf]
              subst hr0
              have HF : Hid (absFind s noteEnd (at' + 4) = none) := Lib.hid (by unfold absFind; rw [hf]; rfl)
              clear hf
              go_wp2_with (go_at_call 30; refine (find_any noteEnd none _ b s (at' + 4) good v' H4.out (by decide) (by decide) HF.out).mono ?_; rintro e w2 ⟨rfl, rfl⟩)
              refine (stop_good 2 s.length _ b s (at' + 4) good v' H4.out rfl).mono ?_
              rintro e w9 ⟨rfl, hk9, h9⟩
              go_wp2_with fail
              go_end0
              exact ⟨rfl, ((HK1.out).setCell (p := ⟨b, 1, none⟩) (.inl (.inl rfl)) _).trans (hk9.mono fun k _ hk => .inl hk), _, _, h9⟩
            | some e =>
              have hfl := findSub_le _ _ _ hf
              rw [List.length_drop] at hfl
              have hsl : noteEnd.length = 3 := rfl
              rw [hsl] at hfl
              have hRR := HR2.out
              rw [hf] at hRR
              have HRR := Lib.hid hRR
              have HF : Hid (absFind s noteEnd (at' + 4) = some (at' + 4 + e)) := Lib.hid (by unfold absFind; rw [hf]; rfl)
              clear hf hRR
              go_wp2_with (go_at_call 30; refine (find_some noteEnd (at' + 4 + e) _ b s (at' + 4) good v' H4.out (by decide) (by decide) HF.out).mono ?_; rintro e2 w2 ⟨rfl, rfl⟩)
              go_roundg (s.length - (at' + (4 + e + 3)) + 1)
              case measure => omega
              case rel =>
                cases f with
                | zero => omega
                | succ f =>
                  exact .inr ⟨at' + (4 + e + 3), v', ns', ⟨(HR1.out.set (a' := at' + 4) (x := (at' : Int) + 4) (by omega) (by omega)).set (by omega) (by omega), ((HK1.out).setCell (p := ⟨b, 1, none⟩) (.inl (.inl rfl)) _).setCell (p := ⟨b, 1, none⟩) (.inl (.inl rfl)) _, HL.out.own,
                    ⟨f, by omega, by omega, HRR.out⟩, rfl⟩⟩
          | false =>
            rw [hm2, if_neg (by simp)] at hR
            have HM2 := Lib.hid hm2
            clear hm2
            cases hm3 : ([60] : B).isPrefixOf (s.drop at') with
            | true =>
              rw [hm3, if_pos rfl] at hR
              have HM3 := Lib.hid hm3
              have HR2 := Lib.hid hR
              clear hm3 hR
              go_wp2_with fail
              go_quiet (first | (go_at_call 22; exact Calls.quiet_of_same (ok_is true _ b s at' good v' H1.out rfl)) | (go_at_call 29; exact Calls.quiet_of (on_good [60, 47] false _ b s at' good v' H1.out rfl (by decide) HM1.out)))
              go_wp2_with fail
              refine (on_good noteBegin false _ b s at' good v' (H1.out.drewN nq) rfl (by decide) HM2.out).mono ?_
              rintro e w1 ⟨rfl, hq1⟩
              have hqq : Qt wr w1 := Qt.trans ⟨nq, rfl⟩ hq1
              have h1 := HL.out.wk.quiet hqq
              have hk1 := HL.out.kept.trans (hqq.kept _)
              clear c0 c1 f1 hq1 hqq
              have HR1 := Lib.hid h1
              have HK1 := Lib.hid hk1
              clear h1 hk1
              go_wp2_with fail
              refine (on_good [60] true _ b s at' good v' HR1.out.rd rfl (by decide) HM3.out).mono ?_
              rintro e w2 ⟨rfl, hq2⟩
              have H2 := Lib.hid (HR1.out.quiet hq2)
              have HK2 := Lib.hid (HK1.out.trans (Qt.kept hq2 _))
              clear hq2
              go_wp2_with fail
              have hel := relem_any (pItems f) s base b f (fun parent deep ns a v w x1 x2 x3 => IH.out f (by omega) parent deep ns a v w x1 x2 x3) (fun p d n l a => nb_items f p d n l a) parent deep ns' at' v' w2 hf2 hdeep H2.out
              have hRR := HR2.out
              obtain ⟨ans, hans⟩ : ∃ ans, pElem (pItems f) parent deep ns' (s.drop at') at' = ans := ⟨_, rfl⟩
              have HANS := Lib.hid hans
              rw [hans] at hel hRR
              have HRR := Lib.hid hRR
              clear hans hRR
              refine hel.mono ?_
              clear hel
              have kept3 : ∀ w3 : World, Kept (RdrS b v') w2 w3 → Kept (RdrS b v) w w3 := fun w3 hk => HK2.out.trans' hk (fun i hi hs => by
                rcases hs with hs | hs
                · exact .inl hs
                · rcases HL.out.own i hs with h | h
                  · exact .inr h
                  · omega)
              have HK3 := Lib.hid kept3
              clear kept3
              cases ans with
              | bad f0 =>
                rintro e w3 ⟨rfl, hk3, at3, v3, h3⟩
                have hr0 : r = .bad f0 := by rw [← HRR.out]; rfl
                have hfe : f0.err ≠ 0 := nb_elem _ (nb_items f) _ _ _ _ _ _ HANS.out
                have HKK := Lib.hid (HK3.out _ hk3)
                have H3 := Lib.hid h3
                have HR0 := Lib.hid hr0
                clear hk3 h3 hr0
                go_wp2_with fail
                go_roundg 0
                case measure => omega
                case rel => exact .inl ⟨⟨f0, at3, v3, HR0.out, hfe, H3.out, HKK.out⟩, rfl⟩
              | ok y =>
                obtain ⟨ns9, l9, at9⟩ := y
                rintro e w3 ⟨v9, rfl, hk9, hr9, rfl, hgv9⟩
                have HKK := Lib.hid (HK3.out _ hk9)
                have H9 := Lib.hid hr9
                have hpos := pElem_pos (HANS.out)
                have hl9 := hr9.rd.2.1
                have HGV : Hid (∀ k, v9.ownBlock = some k → v.ownBlock = some k ∨ w.heap.size ≤ k) := Lib.hid fun k hk => by
                  rcases hgv9 k hk with h | h
                  · exact HL.out.own k h
                  · have := HK2.out.size; exact .inr (by omega)
                have hRR := HRR.out
                simp only [Ans.ok_then] at hRR
                have HRR2 := Lib.hid hRR
                clear hRR hk9 hr9 hgv9
                go_wp2_with fail
                go_roundg (s.length - at9 + 1)
                case measure => omega
                case rel =>
                  cases f with
                  | zero => omega
                  | succ f => exact .inr ⟨at9, v9, ns9, ⟨H9.out, HKK.out, HGV.out, ⟨f, by omega, by omega, HRR2.out⟩, rfl⟩⟩
            | false =>
              rw [hm3, if_neg (by simp)] at hR
              have HM3 := Lib.hid hm3
              have HR2 := Lib.hid hR
              clear hm3 hR
              go_wp2_with fail
              go_quiet (first | (go_at_call 22; exact Calls.quiet_of_same (ok_is true _ b s at' good v' H1.out rfl)) | (go_at_call 29; exact Calls.quiet_of (on_good [60, 47] false _ b s at' good v' H1.out rfl (by decide) HM1.out)))
              go_wp2_with fail
              refine (on_good noteBegin false _ b s at' good v' (H1.out.drewN nq) rfl (by decide) HM2.out).mono ?_
              rintro e w1 ⟨rfl, hq1⟩
              have hqq : Qt wr w1 := Qt.trans ⟨nq, rfl⟩ hq1
              have h1 := HL.out.wk.quiet hqq
              have hk1 := HL.out.kept.trans (hqq.kept _)
              clear c0 c1 f1 hq1 hqq
              have HR1 := Lib.hid h1
              have HK1 := Lib.hid hk1
              clear h1 hk1
              go_wp2_with fail
              refine (on_good [60] false _ b s at' good v' HR1.out.rd rfl (by decide) HM3.out).mono ?_
              rintro e w2 ⟨rfl, hq2⟩
              have h2 := HR1.out.quiet hq2
              have hk2 := HK1.out.trans (Qt.kept hq2 _)
              clear hq2
              have c0 := h2.rd.c0
              have c1 := h2.rd.c1
              have f1 := h2.rd.free 1
              have H2 := Lib.hid h2
              have HK2 := Lib.hid hk2
              clear h2 hk2
              have hi0 : (0 : Int) ≤ (at' : Int) := by omega
              have hi1 : (at' : Int) < (s.length : Int) := by omega
              go_wp2_with fail
              go_quiet (fail)
              have h2q := H2.out.quiet ⟨nq, rfl⟩
              have hk2q := HK2.out.drewN nq
              cases ht : pTextOk (s[at']'hlt) with
              | true =>
                have hRR := HR2.out
                rw [ht, if_pos rfl] at hRR
                have HRR := Lib.hid hRR
                clear hRR
                rcases textOk_yes ht with ⟨e1, e2, e3⟩ | ⟨e1, e2, e3⟩
                all_goals
                  clear ht
                  go_wp2
                  go_roundg (s.length - (at' + 1) + 1)
                  case measure => omega
                  case rel =>
                    cases f with
                    | zero => omega
                    | succ f => exact .inr ⟨at' + 1, v', ns', ⟨h2q.set (by omega) (by omega), hk2q.setCell (p := ⟨b, 1, none⟩) (.inl (.inl rfl)) _, HL.out.own, ⟨f, by omega, by omega, HRR.out⟩, rfl⟩⟩
              | false =>
                obtain rfl : r = .bad ⟨2, at'⟩ := by rw [← HR2.out, ht]; rfl
                obtain ⟨e1, en, e2⟩ := textOk_no ht
                rcases e2 with e2 | ⟨e2, e3⟩
                all_goals
                  clear ht
                  go_wp2_with (go_at_call 23; refine (stop_good 2 at' _ b s at' good v' h2q.rd rfl).mono ?_; rintro e w9 ⟨rfl, hk9, h9⟩)
                  all_goals first
                    | (go_end0; exact ⟨rfl, hk2q.trans (hk9.mono fun k _ hk => .inl hk), _, _, h9⟩)
                    | (exfalso; rename_i hx; rcases hx with hx | hx; (rw [e1] at hx; cases hx); omega)
      · rw [pItems_end _ _ _ _ _ _ (by omega)] at hR
        subst hR
        have hd : decide (at' < s.length) = false := by simpa using hlt
        go_wp2_with fail
        go_quiet (first | (go_at_call 22; exact Calls.quiet_of_same (ok_is true _ b s at' good v' H1.out rfl)))
        go_wp2_with fail
        go_end0
        exact ⟨v', rfl, HL.out.kept.drewN _, HL.out.wk.quiet ⟨nq, rfl⟩, rfl, HL.out.own⟩

end Go.Proofs.Ytplbdlgmjehckaa
