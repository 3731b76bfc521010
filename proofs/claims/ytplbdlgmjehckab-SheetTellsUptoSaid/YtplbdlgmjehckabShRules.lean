/-
  The reader of sheets: rules, within media or not.
-/
import Derived.Test.YtplbdlgmjehckabShRule
import Derived.Test.YtplbdlgmjehckabShSeg
namespace Go.Proofs.Ytplbdlgmjehckab
open Go.RowKit
set_option linter.unusedVariables false
set_option linter.unusedSimpArgs false

abbrev RulesOwn := NestOwn ruleCells 5 42 RuleIn
def RS (b : Nat) (v : Value) : Nat → Prop := fun k => k = b ∨ v.ownBlock = some k

def RulesEnd (w : World) (base b : Nat) (s : B) (lv : Value) (X : Ans (List PRule × B × Nat)) (e : Ending) (w' : World) : Prop :=
  (∃ f, e = sthrown f ∧ Kept (RS b lv) w w' ∧ Hid (X = .bad f)) ∨
  (∃ v' rs' vs' at', e = .returned v' ∧ RulesOwn w' base v' rs' vs' ∧ (∀ k, v'.ownBlock = some k → lv.ownBlock = some k ∨ w.heap.size ≤ k) ∧ Kept (RS b lv) w w' ∧ SdAt w' b s at' ∧ rs'.length ≤ 60 ∧ Hid (X = .ok (rs', s.drop at', at')))

theorem sRulesL_step {f : Nat} {md : B} {rs : List PRule} {l : B} {a : Nat} {r : Ans (List PRule × B × Nat)} (h : sRulesL (f + 1) md rs l a = r) :
    (if (l.isEmpty || ([125] : B).isPrefixOf l) = true then .ok (rs, l, a)
    else if (md.isEmpty && mediaWord.isPrefixOf l) = true then
      (sMediaHead (l.drop 6) (a + 6)).then fun h => (rulesFrom f h.1 rs h.2.1 h.2.2).then fun x => (pMust [125] x.2.1 x.2.2).then fun y => rulesFrom f md x.1 y.1 y.2
    else if rs.length = 60 then .bad ⟨5, a⟩ else (sRule md l a).then fun x => rulesFrom f md (rs ++ [x.1]) x.2.1 x.2.2) = r := by
  rw [← h, sRulesL]
  split
  · rfl
  · split
    · cases sMediaHead (l.drop 6) (a + 6) with
      | bad f => rfl
      | ok x =>
        simp only [Ans.ok_then]
        unfold rulesFrom
        cases sGap x.2.1 x.2.2 with
        | bad f => rfl
        | ok y =>
          simp only [Ans.ok_then]
    · rfl

/-- at the head of the loop over rules -/
structure RLp (w wr : World) (base b : Nat) (s : B) (lv : Value) (md : B) (r : Ans (List PRule × B × Nat)) (v : Value) (rs : List PRule) (vs : List Value) (at' : Nat) : Prop where
  rd : SdAt wr b s at'
  own : RulesOwn wr base v rs vs
  few : rs.length ≤ 60
  kept : Kept (RS b lv) w wr
  whence : ∀ k, v.ownBlock = some k → lv.ownBlock = some k ∨ w.heap.size ≤ k
  rest : ∃ f, (s.drop at').length < f ∧ sRulesL f md rs (s.drop at') at' = r
structure RDn (w wr : World) (base b : Nat) (s : B) (lv : Value) (r : Ans (List PRule × B × Nat)) (v : Value) (rs : List PRule) (vs : List Value) (at' : Nat) : Prop where
  rd : SdAt wr b s at'
  own : RulesOwn wr base v rs vs
  few : rs.length ≤ 60
  kept : Kept (RS b lv) w wr
  whence : ∀ k, v.ownBlock = some k → lv.ownBlock = some k ∨ w.heap.size ≤ k
  ok : r = .ok (rs, s.drop at', at')

theorem kept_rs {w w' : World} {b : Nat} {v : Value} (h : Kept (· = b) w w') : Kept (RS b v) w w' := h.mono (fun k _ hk => .inl hk)

/-- one rule more -/
theorem rule_round {w wr w5 w6 : World} {base b gg cap at5 : Nat} {s md : B} {lv v sv dv : Value} {r : Ans (List PRule × B × Nat)} {rs : List PRule} {vs : List Value} {at' : Nat} {u : PRule} {o : Obj}
    (hL : RLp w wr base b s lv md r v rs vs at') (hb : b < base) (hbs : base ≤ wr.heap.size) (hk5 : Kept (· = b) wr w5) (hr5 : SdAt w5 b s at5)
    (hs : SelsIn w5 (fun k => k < wr.heap.size) sv u.sels) (hd : DeclsIn w5 (fun k => k < wr.heap.size) dv u.decls)
    (hown : w6.ownsRow base 42 5 (.slice (some ⟨gg, 0, none⟩) (rs.length + 1) cap) (rs.length + 1) ((List.zipWith ruleCells rs vs).flatten ++ ruleCells u (.tuple #[sv, dv])))
    (hgrow : (w5.alloc o).grownBy w6 v.ownBlock) (hat : v.ownBlock = some gg ∨ gg = w5.heap.size + 1) :
    SdAt w6 b s at5 ∧ RulesOwn w6 base (.slice (some ⟨gg, 0, none⟩) (rs.length + 1) cap) (rs ++ [u]) (vs ++ [.tuple #[sv, dv]]) ∧ Kept (RS b lv) w w6 ∧
      ∀ k, (Value.slice (some ⟨gg, 0, none⟩) (rs.length + 1) cap).ownBlock = some k → lv.ownBlock = some k ∨ w.heap.size ≤ k := by
  have hlt := hL.own.own.lt
  have hk6 : Kept (fun k => v.ownBlock = some k) w5 w6 := ((Kept.refl _ w5).alloc o).grown hgrow (fun k hk => .inl hk)
  have o5 : RulesOwn w5 base v rs vs := hL.own.kept rule_lasts hb hk5
  have hsz := hk5.size
  have hsw := hL.kept.size
  refine ⟨hr5.kept hk6 (fun h => by have := (hlt b h).1; omega), ?_, ?_, ?_⟩
  · refine o5.push rule_lasts ?_ hown hgrow (by rcases hat with h | h; exact .inl h; exact .inr (by omega))
    have hX : ∀ k, k < w5.heap.size → (k < base ∨ v.ownBlock = some k) → k < wr.heap.size := fun k _ hx => by
      rcases hx with hx | hx
      · omega
      · exact (hlt k hx).2
    exact ⟨sv, dv, rfl, sels_lasts _ _ _ _ (fun _ => False) _ _ hs (Kept.refl _ _) (fun k _ hs => hs.elim) hX, decls_lasts _ _ _ _ (fun _ => False) _ _ hd (Kept.refl _ _) (fun k _ hs => hs.elim) hX⟩
  · refine ((hL.kept.trans (kept_rs hk5)).alloc o).grown hgrow (fun k hk => ?_)
    rcases hL.whence k hk with h | h
    · exact .inl (.inr h)
    · exact .inr h
  · intro k hk
    simp only [Value.ownBlock, Option.some.injEq] at hk
    subst hk
    rcases hat with h | h
    · exact hL.whence _ h
    · exact .inr (by omega)

set_option maxRecDepth 100000 in
set_option maxHeartbeats 6400000 in
theorem srules_gen (md s : B) (b base : Nat) (m : Int) (hb0 : 0 < b) (hbb : b < base)
    (IH : md = [] → ∀ (nm : B) (g : Nat) (rs : List PRule) (vs : List Value) (lv : Value) (at_ : Nat) (w : World), nm ≠ [] → SdAt w b s at_ → w.cell? ⟨0, 0, none⟩ = some (.int .i64 m) → base ≤ w.heap.size → RulesOwn w base lv rs vs → rs.length ≤ 60 → (s.drop at_).length < g →
      Calls Try.prog 20 #[.pointer (some ⟨b, 0, none⟩), lv, .string (str nm)] w (RulesEnd w base b s lv (rulesFrom g nm rs (s.drop at_) at_)))
    (g : Nat) (rs0 : List PRule) (vs0 : List Value) (lv : Value) (at_ : Nat) (w : World) (h : SdAt w b s at_) (hm : w.cell? ⟨0, 0, none⟩ = some (.int .i64 m)) (hbs : base ≤ w.heap.size) (how : RulesOwn w base lv rs0 vs0) (hfew : rs0.length ≤ 60) (hg : (s.drop at_).length < g) :
    Calls Try.prog 20 #[.pointer (some ⟨b, 0, none⟩), lv, .string (str md)] w (RulesEnd w base b s lv (rulesFrom g md rs0 (s.drop at_) at_)) := by
  obtain ⟨r, HR⟩ : ∃ r, Hid (rulesFrom g md rs0 (s.drop at_) at_ = r) := ⟨_, rfl⟩
  rw [HR.out]
  have HI := Lib.hid IH
  have HM := Lib.hid hm
  have HO := Lib.hid how
  obtain ⟨i0, hi0, hz0, hz1, hz2⟩ := info_parts info_rule
  have H := Lib.hid h
  have hl := h.2.1
  have hmx := h.2.2
  have hblt := h.lt
  have HG := Lib.hid hg
  clear h hm IH how hg
  have hmd0 : md.isEmpty = true ∨ md.isEmpty = false := by cases md.isEmpty <;> simp
  go_enter Try.func20, Try.ntmps20
  go_wp2_with fail
  refine (sblank_sum _ _ _ _ m H.out HM.out hb0).mono ?_
  rintro e w1 (⟨f, rfl, hk1, hp1⟩ | ⟨at1, rfl, hk1, h1, hp1⟩)
  · have hR : Hid (r = .bad f) := Lib.hid (by rw [← HR.out]; unfold rulesFrom; rw [hp1.out]; rfl)
    have K1 := Lib.hid hk1
    clear hk1
    go_wp2_with fail
    exact ⟨rfl, .inl ⟨_, rfl, kept_rs K1.out, hR⟩⟩
  · have hle1 : at_ ≤ at1 := by obtain ⟨_, _, h1, h2, _⟩ := gap_loc hp1.out; omega
    have HP0 : Hid (RLp w w1 base b s lv md r lv rs0 vs0 at1) := Lib.hid ⟨h1, HO.out.kept rule_lasts hbb hk1, hfew, kept_rs hk1, fun k hk => .inl hk, g, Nat.lt_of_le_of_lt (drop_in hle1) HG.out, by rw [← HR.out]; unfold rulesFrom; rw [hp1.out]; rfl⟩
    have hl1 := h1.2.1
    clear hk1 h1 hp1 HR
    go_upto_block 0 with fail
    go_cut [1] (fun l wx => ∃ rs vs at', RDn w wx base b s lv r l rs vs at')
    case first =>
      go_wp2_with fail
      go_loopg [1] (s.length - at1) (fun k l wr => ∃ rs vs at', RLp w wr base b s lv md r l rs vs at' ∧ k = s.length - at')
      case atStart => exact ⟨rs0, vs0, at1, HP0.out, rfl⟩
      case round =>
        obtain ⟨rs, vs, at', hL, hk⟩ := hrel
        have HL := Lib.hid hL
        have hfew1 := hL.few
        have hl' := hL.rd.2.1
        have c0 := hL.rd.c0
        have c1 := hL.rd.c1
        obtain ⟨lo, lc, rfl⟩ := hL.own.form
        obtain ⟨f0, hf0, hr0⟩ := hL.rest
        cases f0 with
        | zero => omega
        | succ f =>
        have HF := Lib.hid hf0
        have HST := Lib.hid (sRulesL_step hr0)
        clear hL hr0 hf0
        by_cases hlt : at' < s.length
        · have HD := Lib.hid (List.drop_eq_getElem_cons hlt)
          have e0 : decide ((at' : Int) < (s.length : Int)) = true := by simp; omega
          cases e1 : (((s[at']'hlt).toNat : Int) != 125) with
          | false =>
            have hR : Hid (r = .ok (rs, s.drop at', at')) := Lib.hid (by
              rw [← HST.out, if_pos]
              have : s[at']'hlt = 125 := UInt8.toNat_inj.1 (by simp at e1; have : (125 : UInt8).toNat = 125 := rfl; omega)
              rw [HD.out, this]; rfl)
            go_wp2_with fail
            go_quiet (fail)
            go_wp2_with fail
            go_meet
            case rel => exact ⟨rs, vs, at', HL.out.rd.drewN _, HL.out.own.kept rule_lasts hbb ((Kept.refl _ _).drewN _), HL.out.few, HL.out.kept.drewN _, HL.out.whence, hR.out⟩
          | true =>
            have hne : ¬ s[at']'hlt = 125 := fun h => by rw [h] at e1; cases e1
            have hst := HST.out
            rw [if_neg (brace_no HD.out hne)] at hst
            have HST1 := Lib.hid hst
            clear hst hne
            go_wp2_with fail
            go_quiet (fail)
            obtain ⟨w2, HW2⟩ : ∃ w2, Hid (wr.drewN nq = w2) := ⟨_, rfl⟩
            have hq1 : Qt wr w2 := ⟨nq, HW2.out.symm⟩
            have HL2 : Hid (RLp w w2 base b s lv md r (.slice lo rs.length lc) rs vs at') := Lib.hid ⟨HL.out.rd.quiet hq1, HL.out.own.kept rule_lasts hbb (hq1.kept _), HL.out.few, HL.out.kept.trans (hq1.kept _), HL.out.whence, HL.out.rest⟩
            clear hq1 c0 c1
            go_upto_region 3 with fail
            rw [HW2.out]
            obtain ⟨q, HQ⟩ : ∃ q, Hid ((md.isEmpty && mediaWord.isPrefixOf (s.drop at')) = q) := ⟨_, rfl⟩
            go_cut [37] (fun x wx => x = .bool q ∧ SdAt wx b s (at' + if q then 6 else 0) ∧ Kept (· = b) w2 wx)
            case first =>
              rcases hmd0 with hmd | hmd
              · obtain ⟨q2, HQ2⟩ : ∃ q2, Hid (mediaWord.isPrefixOf (s.drop at') = q2) := ⟨_, rfl⟩
                obtain rfl : q = q2 := by rw [← HQ.out, hmd, HQ2.out]; rfl
                go_wp2_with fail
                refine (seat_is q mediaWord _ _ _ _ HL2.out.rd HQ2.out).mono ?_
                rintro e w3 ⟨rfl, hk3, h3⟩
                have H3 : Hid (SdAt w3 b s (at' + if q then 6 else 0)) := Lib.hid h3
                have K3 := Lib.hid hk3
                clear hk3 h3
                go_wp2_with fail
                go_meet
                case rel => exact ⟨rfl, H3.out, K3.out⟩
              · obtain rfl : q = false := by rw [← HQ.out, hmd]; rfl
                go_wp2_with fail
                go_meet
                case rel => exact ⟨rfl, HL2.out.rd, Kept.refl _ _⟩
            case rest =>
              obtain ⟨rfl, h3, hk3⟩ := hcut
              have K3 := Lib.hid hk3
              have H3 := Lib.hid h3
              have KW3 := Lib.hid (HL2.out.kept.trans (kept_rs hk3))
              have O3 := Lib.hid (HL2.out.own.kept rule_lasts hbb hk3)
              clear h3 hk3
              cases q with
              | true =>
                obtain ⟨hmd, hmw⟩ : md.isEmpty = true ∧ mediaWord.isPrefixOf (s.drop at') = true := by have := HQ.out; simpa using this
                have hmdn : md = [] := by simpa using hmd
                have HMDN := Lib.hid hmdn
                have HE : Hid (((sMediaHead (s.drop (at' + 6)) (at' + 6)).then fun h => (rulesFrom f h.1 rs h.2.1 h.2.2).then fun x => (pMust [125] x.2.1 x.2.2).then fun y => rulesFrom f md x.1 y.1 y.2) = r) := Lib.hid (by
                  rw [← HST1.out, HQ.out, if_pos rfl, List.drop_drop])
                have H3' : Hid (SdAt wc b s (at' + 6)) := Lib.hid H3.out
                have HM3 : Hid (wc.cell? ⟨0, 0, none⟩ = some (.int .i64 m)) := Lib.hid (KW3.out.cell (fun hs => by
                  rcases hs with hs | hs
                  · have : (0 : Nat) = b := hs; omega
                  · have := (HO.out.own.lt 0 hs).1; omega) HM.out)
                clear hmdn hmw
                go_wp2_with fail
                refine (sblank_sum _ _ _ _ m H3'.out HM3.out hb0).mono ?_
                rintro e w4 (⟨g, rfl, hk, hp4⟩ | ⟨at4, rfl, hk, h4, hp4⟩)
                · have hR : Hid (r = .bad g) := Lib.hid (by rw [← HE.out]; unfold sMediaHead; rw [hp4.out]; rfl)
                  have KB := Lib.hid (KW3.out.trans (kept_rs hk))
                  clear hk
                  go_wp2_with fail
                  exact ⟨rfl, .inl ⟨_, rfl, KB.out, hR⟩⟩
                · have J4 := Lib.hid hk
                  have H4 := Lib.hid h4
                  have hl4 := h4.2.1
                  have hle4 : at' + 6 ≤ at4 := by obtain ⟨_, _, h1, h2, _⟩ := gap_loc hp4.out; omega
                  clear hk h4
                  by_cases hgap : at4 = at' + 6
                  · have eg : decide (at' + 6 < at4) = false := by simp; omega
                    have hR : Hid (r = .bad ⟨2, at4⟩) := Lib.hid (by rw [← HE.out]; unfold sMediaHead; rw [hp4.out, Ans.ok_then]; simp only; rw [if_pos hgap]; rfl)
                    rw [eg]
                    clear hgap
                    go_wp2_with fail
                    refine (sfail_any 2 _ _ _ _ H4.out).mono ?_
                    rintro e w9 ⟨rfl, hq9⟩
                    go_wp2_with fail
                    exact ⟨rfl, .inl ⟨_, rfl, KW3.out.trans (kept_rs (J4.out.trans (hq9.kept _))), hR⟩⟩
                  · have eg : decide (at' + 6 < at4) = true := by simp; omega
                    have HE4 : Hid (((sName (s.drop at4) at4).then fun x => (sGap x.2.1 x.2.2).then fun y => (pMust [123] y.1 y.2).then fun z => (rulesFrom f x.1 rs z.1 z.2).then fun u => (pMust [125] u.2.1 u.2.2).then fun v => rulesFrom f md u.1 v.1 v.2) = r) := Lib.hid (by
                      rw [← HE.out]; unfold sMediaHead; rw [hp4.out, Ans.ok_then]; simp only; rw [if_neg hgap]
                      cases sName (s.drop at4) at4 with
                      | bad f => rfl
                      | ok x =>
                        simp only [Ans.ok_then]
                        cases sGap x.2.1 x.2.2 with
                        | bad f => rfl
                        | ok y =>
                          simp only [Ans.ok_then]
                          cases pMust [123] y.1 y.2 <;> rfl)
                    rw [eg]
                    clear hgap
                    go_wp2_with fail
                    refine (sname_sum _ _ _ _ H4.out).mono ?_
                    rintro e w5 (⟨g, rfl, hk, hp5⟩ | ⟨nm, at5, rfl, hk, h5, hp5⟩)
                    · have hR : Hid (r = .bad g) := Lib.hid (by rw [← HE4.out, hp5.out]; rfl)
                      have KB := Lib.hid (KW3.out.trans (kept_rs (J4.out.trans hk)))
                      clear hk
                      go_wp2_with fail
                      exact ⟨rfl, .inl ⟨_, rfl, KB.out, hR⟩⟩
                    · have HE5 : Hid (((sGap (s.drop at5) at5).then fun y => (pMust [123] y.1 y.2).then fun z => (rulesFrom f nm rs z.1 z.2).then fun u => (pMust [125] u.2.1 u.2.2).then fun v => rulesFrom f md u.1 v.1 v.2) = r) := Lib.hid (by rw [← HE4.out, hp5.out]; rfl)
                      have hnm : nm ≠ [] ∧ at4 < at5 := by
                        obtain ⟨h1, h2, h3, _⟩ := name_pos hp5.out
                        exact ⟨by rintro rfl; simp at h1, by omega⟩
                      have HNM := Lib.hid hnm.1
                      have hle5 := hnm.2
                      have J5 := Lib.hid (J4.out.trans hk)
                      have H5 := Lib.hid h5
                      have HM5 := Lib.hid ((J4.out.trans hk).cell (by show ¬ (0 = b); omega) HM3.out)
                      clear hk h5 hnm
                      go_wp2_with fail
                      refine (sblank_sum _ _ _ _ m H5.out HM5.out hb0).mono ?_
                      rintro e w6 (⟨g, rfl, hk, hp6⟩ | ⟨at6, rfl, hk, h6, hp6⟩)
                      · have hR : Hid (r = .bad g) := Lib.hid (by rw [← HE5.out, hp6.out]; rfl)
                        have KB := Lib.hid (KW3.out.trans (kept_rs (J5.out.trans hk)))
                        clear hk
                        go_wp2_with fail
                        exact ⟨rfl, .inl ⟨_, rfl, KB.out, hR⟩⟩
                      · have HE6 : Hid (((pMust [123] (s.drop at6) at6).then fun z => (rulesFrom f nm rs z.1 z.2).then fun u => (pMust [125] u.2.1 u.2.2).then fun v => rulesFrom f md u.1 v.1 v.2) = r) := Lib.hid (by rw [← HE5.out, hp6.out]; rfl)
                        have hle6 : at5 ≤ at6 := by obtain ⟨_, _, h1, h2, _⟩ := gap_loc hp6.out; omega
                        have J6 := Lib.hid (J5.out.trans hk)
                        have H6 := Lib.hid h6
                        clear hk h6
                        go_wp2_with fail
                        refine (smust_sum [123] _ _ _ _ H6.out).mono ?_
                        rintro e w7 (⟨g, rfl, hk, hp7⟩ | ⟨at7, rfl, hk, h7, hp7⟩)
                        · have hR : Hid (r = .bad g) := Lib.hid (by rw [← HE6.out, hp7.out]; rfl)
                          have KB := Lib.hid (KW3.out.trans (kept_rs (J6.out.trans hk)))
                          clear hk
                          go_wp2_with fail
                          exact ⟨rfl, .inl ⟨_, rfl, KB.out, hR⟩⟩
                        · have HE7 : Hid (((rulesFrom f nm rs (s.drop at7) at7).then fun u => (pMust [125] u.2.1 u.2.2).then fun v => rulesFrom f md u.1 v.1 v.2) = r) := Lib.hid (by rw [← HE6.out, hp7.out]; rfl)
                          have hle7 : at6 ≤ at7 := by have := (must_loc hp7.out).2.1; omega
                          have hl7 := h7.2.1
                          have J7 := Lib.hid (J6.out.trans hk)
                          have H7 := Lib.hid h7
                          have HM7 := Lib.hid ((J6.out.trans hk).cell (by show ¬ (0 = b); omega) HM3.out)
                          have hsz7 : base ≤ w7.heap.size := by have := (J6.out.trans hk).size; have := KW3.out.size; omega
                          have O7 := Lib.hid (O3.out.kept rule_lasts hbb (J6.out.trans hk))
                          have KW7 := Lib.hid (KW3.out.trans (kept_rs (J6.out.trans hk)))
                          have hg7 : (s.drop at7).length < f := by have := HF.out; rw [List.length_drop] at this ⊢; omega
                          have HC := Lib.hid (HI.out HMDN.out nm f rs vs (.slice lo rs.length lc) at7 w7 HNM.out H7.out HM7.out hsz7 O7.out hfew1 hg7)
                          clear hk h7 hg7
                          go_wp2_with fail
                          refine HC.out.mono ?_
                          rintro e w8 (⟨g, rfl, hk, hp8⟩ | ⟨v8, rs8, vs8, at8, rfl, ho8, hwh8, hk, h8, hfew8, hp8⟩)
                          · have hR : Hid (r = .bad g) := Lib.hid (by rw [← HE7.out, hp8.out]; rfl)
                            have KB : Hid (Kept (RS b lv) w w8) := Lib.hid (KW7.out.trans' hk (fun k hk hs => by
                              rcases hs with hs | hs
                              · exact .inl hs
                              · rcases HL.out.whence k hs with h | h
                                · exact .inr h
                                · omega))
                            clear hk
                            go_wp2_with fail
                            exact ⟨rfl, .inl ⟨_, rfl, KB.out, hR⟩⟩
                          · have HE8 : Hid (((pMust [125] (s.drop at8) at8).then fun v => rulesFrom f md rs8 v.1 v.2) = r) := Lib.hid (by rw [← HE7.out, hp8.out]; rfl)
                            have hle8 : at7 ≤ at8 := by
                              have h1 := hp8.out
                              unfold rulesFrom at h1
                              obtain ⟨⟨l2, a2⟩, g1, g2⟩ := then_ok h1
                              obtain ⟨_, _, _, h2, _⟩ := gap_loc g1
                              obtain ⟨_, _, _, h3, _⟩ := in_inv _ _ _ _ _ _ _ _ HNM.out hfew1 g2
                              omega
                            have KW8 : Hid (Kept (RS b lv) w w8) := Lib.hid (KW7.out.trans' hk (fun k hk hs => by
                              rcases hs with hs | hs
                              · exact .inl hs
                              · rcases HL.out.whence k hs with h | h
                                · exact .inr h
                                · omega))
                            have WH8 : Hid (∀ k, v8.ownBlock = some k → lv.ownBlock = some k ∨ w.heap.size ≤ k) := Lib.hid (fun k hk => by
                              rcases hwh8 k hk with h | h
                              · exact HL.out.whence k h
                              · have := KW7.out.size; exact .inr (by omega))
                            obtain ⟨lo8, lc8, rfl⟩ := ho8.form
                            have O8 := Lib.hid ho8
                            have H8 := Lib.hid h8
                            clear hk ho8 hwh8 h8
                            go_wp2_with fail
                            refine (smust_sum [125] _ _ _ _ H8.out).mono ?_
                            rintro e w9 (⟨g, rfl, hk, hp9⟩ | ⟨at9, rfl, hk, h9, hp9⟩)
                            · have hR : Hid (r = .bad g) := Lib.hid (by rw [← HE8.out, hp9.out]; rfl)
                              have KB := Lib.hid (KW8.out.trans (kept_rs hk))
                              clear hk
                              go_wp2_with fail
                              exact ⟨rfl, .inl ⟨_, rfl, KB.out, hR⟩⟩
                            · have HE9 : Hid (rulesFrom f md rs8 (s.drop at9) at9 = r) := Lib.hid (by rw [← HE8.out, hp9.out]; rfl)
                              have hle9 : at8 ≤ at9 := by have := (must_loc hp9.out).2.1; omega
                              have J9 := Lib.hid hk
                              have H9 := Lib.hid h9
                              have HM9 : Hid (w9.cell? ⟨0, 0, none⟩ = some (.int .i64 m)) := Lib.hid ((KW8.out.trans (kept_rs hk)).cell (fun hs => by
                                rcases hs with hs | hs
                                · have : (0 : Nat) = b := hs; omega
                                · have := (HO.out.own.lt 0 hs).1; omega) HM.out)
                              clear hk h9
                              go_wp2_with fail
                              refine (sblank_sum _ _ _ _ m H9.out HM9.out hb0).mono ?_
                              rintro e w10 (⟨g, rfl, hk, hp10⟩ | ⟨at10, rfl, hk, h10, hp10⟩)
                              · have hR : Hid (r = .bad g) := Lib.hid (by rw [← HE9.out]; unfold rulesFrom; rw [hp10.out]; rfl)
                                have KB := Lib.hid (KW8.out.trans (kept_rs (J9.out.trans hk)))
                                clear hk
                                go_wp2_with fail
                                exact ⟨rfl, .inl ⟨_, rfl, KB.out, hR⟩⟩
                              · have hle10 : at9 ≤ at10 := by obtain ⟨_, _, h1, h2, _⟩ := gap_loc hp10.out; omega
                                have hl10 := h10.2.1
                                have hd : RLp w w10 base b s lv md r (.slice lo8 rs8.length lc8) rs8 vs8 at10 :=
                                  ⟨h10, O8.out.kept rule_lasts hbb (J9.out.trans hk), hfew8, KW8.out.trans (kept_rs (J9.out.trans hk)), WH8.out, f, by have := HF.out; rw [List.length_drop] at this ⊢; omega, by
                                    have h1 := HE9.out
                                    unfold rulesFrom at h1
                                    rw [hp10.out] at h1
                                    exact h1⟩
                                have HDN := Lib.hid hd
                                clear hk h10 hd
                                go_wp2_with fail
                                go_roundg (s.length - at10)
                                case measure => omega
                                case rel => exact ⟨rs8, vs8, at10, HDN.out, rfl⟩
              | false =>
                have H3' : Hid (SdAt wc b s at') := Lib.hid H3.out
                have HST2 : Hid ((if rs.length = 60 then Ans.bad ⟨5, at'⟩ else (sRule md (s.drop at') at').then fun x => rulesFrom f md (rs ++ [x.1]) x.2.1 x.2.2) = r) := Lib.hid (by have h1 := HST1.out; rw [HQ.out, if_neg (by simp)] at h1; exact h1)
                by_cases h60 : rs.length = 60
                · have e60 : ((rs.length : Int) == 60) = true := by simp; omega
                  have hR : Hid (r = .bad ⟨5, at'⟩) := Lib.hid (by rw [← HST2.out, if_pos h60])
                  clear h60
                  go_wp2_with fail
                  refine (sfail_any 5 _ _ _ _ H3'.out).mono ?_
                  rintro e w9 ⟨rfl, hq9⟩
                  go_wp2_with fail
                  exact ⟨rfl, .inl ⟨_, rfl, KW3.out.trans (kept_rs (hq9.kept _)), hR⟩⟩
                · have e60 : ((rs.length : Int) == 60) = false := by simp; omega
                  have HST3 : Hid (((sRule md (s.drop at') at').then fun x => rulesFrom f md (rs ++ [x.1]) x.2.1 x.2.2) = r) := Lib.hid (by rw [← HST2.out, if_neg h60])
                  have hfew60 : rs.length + 1 ≤ 60 := by omega
                  have HM3 : Hid (wc.cell? ⟨0, 0, none⟩ = some (.int .i64 m)) := Lib.hid (KW3.out.cell (fun hs => by
                    rcases hs with hs | hs
                    · have : (0 : Nat) = b := hs; omega
                    · have := (HO.out.own.lt 0 hs).1; omega) HM.out)
                  have HL3 : Hid (RLp w wc base b s lv md r (.slice lo rs.length lc) rs vs at') := Lib.hid ⟨H3'.out, O3.out, HL.out.few, KW3.out, HL.out.whence, HL.out.rest⟩
                  have hbs3 : base ≤ wc.heap.size := by have := KW3.out.size; omega
                  clear h60
                  go_wp2_with fail
                  refine (srule_sum md _ _ _ _ m H3'.out HM3.out hb0).mono ?_
                  rintro e w5 (⟨g, rfl, hk, hp5⟩ | ⟨u, at5, ⟨sv, dv, rfl, hsv, hdv⟩, hk, h5, hp5⟩)
                  · have hR : Hid (r = .bad g) := Lib.hid (by rw [← HST3.out, hp5.out]; rfl)
                    have KB := Lib.hid (KW3.out.trans (kept_rs hk))
                    clear hk
                    go_wp2_with fail
                    exact ⟨rfl, .inl ⟨_, rfl, KB.out, hR⟩⟩
                  · have HE5 : Hid (rulesFrom f md (rs ++ [u]) (s.drop at5) at5 = r) := Lib.hid (by rw [← HST3.out, hp5.out]; rfl)
                    have hle5 : at' < at5 := by obtain ⟨t, h1, h2, _, _, _, h3, _⟩ := rule_loc hp5.out; omega
                    have how5 := (O3.out.kept rule_lasts hbb hk).own
                    have J5 := Lib.hid hk
                    have H5 := Lib.hid h5
                    have HSV := Lib.hid hsv
                    have HDV := Lib.hid hdv
                    obtain ⟨sa, sc, rfl⟩ : ∃ a c, sv = .slice a u.sels.length c := by
                      obtain ⟨tvs, h1, ⟨a, cap, h2, _⟩, _⟩ := hsv; exact ⟨a, cap, by simpa [h1] using h2⟩
                    obtain ⟨da, dc, rfl⟩ : ∃ a c, dv = .slice a u.decls.length c := by
                      obtain ⟨a, cap, h, _⟩ := hdv.1; exact ⟨a, cap, by simpa using h⟩
                    have hsz5 : base ≤ w5.heap.size := by have := hk.size; omega
                    clear hk h5 hsv hdv
                    go_wp2_with (at_builtin; refine wpList_append_lies _ rfl _ _ _ rfl base 42 i0 _ 5 80 Try.underlying23 hi0 hz0 hz1 hz2 rfl (by omega) _ rs.length _ (by rfl) (how5.alloc _) ⟨w5.heap.size, 0, none⟩ 1 1 (ruleCells u (.tuple #[.slice sa u.sels.length sc, .slice da u.decls.length dc])) (by rfl) (by rfl) (World.news_of_block (cs := (ruleCells u (.tuple #[.slice sa u.sels.length sc, .slice da u.decls.length dc])).toArray) (t := 42) (fr := (0, 0)) (heap_alloc_new w5 _)) (by simp [ruleCells, vFst, vSnd, Value.oneCell']) (by omega) (by unfold maxLen; omega) (by omega) (by simp; omega) (w5.heap.size + 1) (by simp) ?_; intro gg cap w6 hown6 hgrow6 hat6 hlt6)
                    obtain ⟨h6, o6, k6, wh6⟩ := rule_round HL3.out hbb hbs3 J5.out H5.out HSV.out HDV.out hown6 hgrow6 hat6
                    have H6 := Lib.hid h6
                    have O6 := Lib.hid o6
                    have KW6 := Lib.hid k6
                    have WH6 := Lib.hid wh6
                    have HM6 : Hid (w6.cell? ⟨0, 0, none⟩ = some (.int .i64 m)) := Lib.hid (k6.cell (fun hs => by
                      rcases hs with hs | hs
                      · have : (0 : Nat) = b := hs; omega
                      · have := (HO.out.own.lt 0 hs).1; omega) HM.out)
                    clear h6 o6 k6 wh6 hown6 hgrow6 how5
                    refine (sblank_sum _ _ _ _ m H6.out HM6.out hb0).mono ?_
                    rintro e w7 (⟨g, rfl, hk, hp7⟩ | ⟨at7, rfl, hk, h7, hp7⟩)
                    · have hR : Hid (r = .bad g) := Lib.hid (by rw [← HE5.out]; unfold rulesFrom; rw [hp7.out]; rfl)
                      have KB := Lib.hid (KW6.out.trans (kept_rs hk))
                      clear hk
                      go_wp2_with fail
                      exact ⟨rfl, .inl ⟨_, rfl, KB.out, hR⟩⟩
                    · have hle7 : at5 ≤ at7 := by obtain ⟨_, _, h1, h2, _⟩ := gap_loc hp7.out; omega
                      have hl7 := h7.2.1
                      have hd : RLp w w7 base b s lv md r (.slice (some ⟨gg, 0, none⟩) (rs.length + 1) cap) (rs ++ [u]) (vs ++ [.tuple #[.slice sa u.sels.length sc, .slice da u.decls.length dc]]) at7 :=
                        ⟨h7, O6.out.kept rule_lasts hbb hk, by simpa using hfew60, KW6.out.trans (kept_rs hk), WH6.out, f, by have := HF.out; rw [List.length_drop] at this ⊢; omega, by
                          have h1 := HE5.out
                          unfold rulesFrom at h1
                          rw [hp7.out] at h1
                          exact h1⟩
                      have HDN := Lib.hid hd
                      clear hk h7 hd
                      go_wp2_with fail
                      go_roundg (s.length - at7)
                      case measure => omega
                      case rel => exact ⟨_, _, at7, HDN.out, rfl⟩
        · have e0 : decide ((at' : Int) < (s.length : Int)) = false := by simp; omega
          have hR : Hid (r = .ok (rs, s.drop at', at')) := Lib.hid (by
            rw [← HST.out, if_pos]
            rw [List.drop_eq_nil_of_le (by omega)]; rfl)
          go_wp2_with fail
          go_quiet (fail)
          go_wp2_with fail
          go_meet
          case rel => exact ⟨rs, vs, at', HL.out.rd.drewN _, HL.out.own.kept rule_lasts hbb ((Kept.refl _ _).drewN _), HL.out.few, HL.out.kept.drewN _, HL.out.whence, hR.out⟩
    case rest =>
      obtain ⟨rs, vs, at', hD⟩ := hcut
      have HD := Lib.hid hD
      clear hD
      go_wp2_with fail
      go_ret
      exact .inr ⟨_, rs, vs, at', rfl, HD.out.own, HD.out.whence, HD.out.kept, HD.out.rd, HD.out.few, Lib.hid HD.out.ok⟩

end Go.Proofs.Ytplbdlgmjehckab
