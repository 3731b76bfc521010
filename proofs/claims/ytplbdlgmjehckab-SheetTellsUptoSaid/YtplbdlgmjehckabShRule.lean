/-
  The reader of sheets: a rule.
-/
import Derived.Test.YtplbdlgmjehckabShSel
import Derived.Test.YtplbdlgmjehckabShDecls
namespace Go.Proofs.Ytplbdlgmjehckab
open Go.RowKit
set_option linter.unusedVariables false
set_option linter.unusedSimpArgs false

abbrev SelOwn := NestOwn selCells 1 59 PartsIn

/-- one more, behind the others; what was made ahead of it is no matter -/
theorem NestOwn.push2 {α : Type} {f : α → Value → List Value} {size e : Nat} {Q : World → (Nat → Prop) → Value → α → Prop} {w wm w' : World} {base gg cap : Nat} {v : Value} {xs : List α} {vs : List Value} {x : α} {u : Value} (h : NestOwn f size e Q w base v xs vs) (hQ : Lasts Q)
    (hu : Q w (fun k => k < base ∨ v.ownBlock = some k) u x) (hm : Kept (fun _ => False) w wm)
    (hown : w'.ownsRow base e size (.slice (some ⟨gg, 0, none⟩) (xs.length + 1) cap) (xs.length + 1) ((List.zipWith f xs vs).flatten ++ f x u)) (hg : wm.grownBy w' v.ownBlock) (hat : v.ownBlock = some gg ∨ w.heap.size ≤ gg) :
    NestOwn f size e Q w' base (.slice (some ⟨gg, 0, none⟩) (xs.length + 1) cap) (xs ++ [x]) (vs ++ [u]) := by
  have hk : Kept (fun k => v.ownBlock = some k) w w' := (hm.mono (T := fun k => v.ownBlock = some k) (fun _ _ h => h.elim)).grown hg (fun k hk => .inl hk)
  have new : ∀ {y : α} {z : Value}, Q w (fun k => k < base ∨ v.ownBlock = some k) z y → Q w' (fun k => k < base ∨ (Value.slice (some ⟨gg, 0, none⟩) (xs.length + 1) cap).ownBlock = some k) z y := fun hq =>
    hQ _ _ _ _ _ _ _ hq hk (fun k _ hs => .inr hs) (fun k hlt hx => by
      rcases hx with hx | hx
      · exact .inl hx
      · simp only [Value.ownBlock, Option.some.injEq] at hx
        subst hx
        rcases hat with h1 | h1
        · exact .inr h1
        · omega)
  refine ⟨by simp [h.len], ?_, fun i y z hy hz => ?_⟩
  · rw [List.zipWith_append (by rw [h.len])]
    simpa using hown
  · by_cases hi : i < xs.length
    · rw [List.getElem?_append_left hi] at hy
      rw [List.getElem?_append_left (by rw [h.len]; exact hi)] at hz
      exact new (h.nest i y z hy hz)
    · have hi2 := (List.getElem?_eq_some_iff.1 hy).1
      simp at hi2
      have : i = xs.length := by omega
      subst this
      simp at hy
      rw [← h.len] at hz
      simp at hz
      subst hy; subst hz
      exact new hu

theorem sSelsL_step {f : Nat} {ss : List PSel} {l : B} {a : Nat} {r : Ans (List PSel × B × Nat)} (h : sSelsL (f + 1) ss l a = r) :
    (if ss.length = 8 then .bad ⟨5, a⟩ else (sSel l a).then fun x => if ([44] : B).isPrefixOf x.2.1 then (sGap (x.2.1.drop 1) (x.2.2 + 1)).then fun y => sSelsL f (ss ++ [x.1]) y.1 y.2 else .ok (ss ++ [x.1], x.2.1, x.2.2)) = r := by
  rw [← h, sSelsL]

/-- at the head of the loop over a rule's selectors -/
structure SLoop (w wr : World) (b : Nat) (s : B) (nb : Nat) (md : B) (at0 : Nat) (r : Ans (List PSel × B × Nat)) (sv : Value) (ss : List PSel) (vs : List Value) (at' : Nat) : Prop where
  rd : SdAt wr b s at'
  node : wr.heap[nb]? = some (.cells #[.string (str md), sv, .slice none 0 0, .int .i64 (at0 : Int), .int .i64 0] 42 (0, 0))
  own : SelOwn wr (nb + 1) sv ss vs
  res : wr.heap[w.heap.size]? = some (.cells #[.string ⟨#[]⟩, .slice none 0 0, .slice none 0 0, .int .i64 0, .int .i64 0] 42 (0, 0))
  few : ss.length ≤ 8
  kept : Kept (· = b) w wr
  rest : ∃ f, (s.drop at').length < f ∧ sSelsL f ss (s.drop at') at' = r
structure SDone (w wr : World) (b : Nat) (s : B) (nb : Nat) (md : B) (at0 : Nat) (r : Ans (List PSel × B × Nat)) (sv : Value) (ss : List PSel) (vs : List Value) (at' : Nat) : Prop where
  rd : SdAt wr b s at'
  node : wr.heap[nb]? = some (.cells #[.string (str md), sv, .slice none 0 0, .int .i64 (at0 : Int), .int .i64 0] 42 (0, 0))
  own : SelOwn wr (nb + 1) sv ss vs
  res : wr.heap[w.heap.size]? = some (.cells #[.string ⟨#[]⟩, .slice none 0 0, .slice none 0 0, .int .i64 0, .int .i64 0] 42 (0, 0))
  kept : Kept (· = b) w wr
  ok : r = .ok (ss, s.drop at', at')

/-- behind one selector more -/
structure SMid (w wr : World) (b : Nat) (s : B) (nb : Nat) (md : B) (at0 at' : Nat) (ss : List PSel) (ps : PSel) (sv : Value) (vs : List Value) (at4 : Nat) : Prop where
  rd : SdAt wr b s at4
  node : wr.heap[nb]? = some (.cells #[.string (str md), sv, .slice none 0 0, .int .i64 (at0 : Int), .int .i64 0] 42 (0, 0))
  own : SelOwn wr (nb + 1) sv (ss ++ [ps]) vs
  res : wr.heap[w.heap.size]? = some (.cells #[.string ⟨#[]⟩, .slice none 0 0, .slice none 0 0, .int .i64 0, .int .i64 0] 42 (0, 0))
  kept : Kept (· = b) w wr
  ok : sSel (s.drop at') at' = .ok (ps, s.drop at4, at4)

theorem sel_round {w wr w4 w5 : World} {b nb at0 at' at4 gg cap : Nat} {s md : B} {R : Ans (List PSel × B × Nat)} {v pv : Value} {ss : List PSel} {vs : List Value} {ps : PSel} {o : Obj}
    (hL : SLoop w wr b s nb md at0 R v ss vs at') (hb : b < nb) (hblt : b < w.heap.size) (hnb : w.heap.size + 1 ≤ nb) (hk4 : Kept (· = b) wr.drew w4) (hr4 : SdAt w4 b s at4) (hp : sSel (s.drop at') at' = .ok (ps, s.drop at4, at4)) (hpv : PartsIn w4 (fun k => k < wr.heap.size) pv ps)
    (hown5 : w5.ownsRow (nb + 1) 59 1 (.slice (some ⟨gg, 0, none⟩) (ss.length + 1) cap) (ss.length + 1) ((List.zipWith selCells ss vs).flatten ++ [pv]))
    (hgrow : (w4.alloc o).grownBy w5 v.ownBlock) (hat : v.ownBlock = some gg ∨ gg = w4.heap.size + 1) :
    SMid w (w5.setCell ⟨nb, 1, none⟩ (.slice (some ⟨gg, 0, none⟩) (ss.length + 1) cap)) b s nb md at0 at' ss ps (.slice (some ⟨gg, 0, none⟩) (ss.length + 1) cap) (vs ++ [pv]) at4 := by
  have hlt := hL.own.own.lt
  have hno : ¬ v.ownBlock = some nb := fun h => by have := (hlt nb h).1; omega
  have hkw : Kept (· = b) wr w4 := ((Kept.refl (· = b) _).drew).trans hk4
  have hk5 : Kept (fun k => v.ownBlock = some k) w4 w5 := ((Kept.refl _ w4).alloc o).grown hgrow (fun k hk => .inl hk)
  have o4 : SelOwn w4 (nb + 1) v ss vs := hL.own.kept parts_lasts (by omega) hkw
  have hsz := hkw.size
  have o5 : SelOwn w5 (nb + 1) (.slice (some ⟨gg, 0, none⟩) (ss.length + 1) cap) (ss ++ [ps]) (vs ++ [pv]) := by
    refine o4.push2 parts_lasts ?_ ((Kept.refl _ _).alloc o) hown5 hgrow (by rcases hat with h | h; exact .inl h; exact .inr (by omega))
    exact parts_lasts _ _ _ _ (fun _ => False) _ _ hpv (Kept.refl _ _) (fun k _ hs => hs.elim) (fun k _ hx => by
      rcases hx with hx | hx
      · have := ltIn hL.node; show k < wr.heap.size; omega
      · exact (hlt k hx).2)
  have hn4 : w4.heap[nb]? = _ := hkw.heap (by omega) hL.node
  have hw : Kept (· = b) w w4 := hL.kept.trans hkw
  have hsw := hL.kept.size
  refine ⟨(hr4.kept hk5 (fun h => by have := (hlt b h).1; omega)).other (by show b ≠ nb; omega), ?_, ?_, ?_, ?_, hp⟩
  · have := setIn (hk5.heap hno hn4) 1 (.slice (some ⟨gg, 0, none⟩) (ss.length + 1) cap)
    simpa using this
  · exact o5.kept parts_lasts (b := nb) (by omega) ((Kept.refl (· = nb) _).setCell (p := ⟨nb, 1, none⟩) (.inl rfl) _)
  · refine otherIn (hk5.heap (fun h => by have := (hlt _ h).1; omega) (hkw.heap (by omega) hL.res)) _ _ (by show w.heap.size ≠ nb; omega)
  · exact ((hw.alloc o).grown hgrow (fun k hk => .inr (by have := (hlt k hk).1; omega))).setCell (p := ⟨nb, 1, none⟩) (.inr (by show w.heap.size ≤ nb; omega)) _

/-- a rule as it is handed back -/
def RuleRet (w : World) (w' : World) (u : PRule) (e : Ending) : Prop := ∃ sv dv, e = .returned (.agg #[.string (str u.media), sv, dv, .int .i64 u.lo, .int .i64 u.hi]) ∧ SelsIn w' (fun k => k < w.heap.size) sv u.sels ∧ DeclsIn w' (fun k => k < w.heap.size) dv u.decls

set_option maxRecDepth 100000 in
set_option maxHeartbeats 6400000 in
theorem srule_sum (md : B) (w : World) (b : Nat) (s : B) (at_ : Nat) (m : Int) (h : SdAt w b s at_) (hm : w.cell? ⟨0, 0, none⟩ = some (.int .i64 m)) (hb0 : 0 < b) :
    Calls Try.prog 35 #[.pointer (some ⟨b, 0, none⟩), .string (str md)] w (SSum (sRule md (s.drop at_) at_) w b s (RuleRet w)) := by
  obtain ⟨r, HR⟩ : ∃ r, Hid (sRule md (s.drop at_) at_ = r) := ⟨_, rfl⟩
  rw [HR.out]
  obtain ⟨R, HRR⟩ : ∃ R, Hid (sSelsL ((s.drop at_).length + 1) [] (s.drop at_) at_ = R) := ⟨_, rfl⟩
  have HM := Lib.hid hm
  obtain ⟨i0, hi0, hz0, hz1, hz2⟩ := info_parts info_sel
  have H := Lib.hid h
  have hl := h.2.1
  have hmx := h.2.2
  have hblt := h.lt
  have c1 := h.c1
  clear h hm
  go_enter Try.func35, Try.ntmps35
  go_upto_block 0 with fail
  obtain ⟨nb, HNB⟩ : ∃ nb, Hid (w.heap.size + 1 = nb) := ⟨_, rfl⟩
  obtain ⟨wa, HWA⟩ : ∃ x, Hid ((w.alloc (.cells #[.string ⟨#[]⟩, .slice none 0 0, .slice none 0 0, .int .i64 0, .int .i64 0] 42 (0, 0))).alloc (.cells #[.string (str md), .slice none 0 0, .slice none 0 0, .int .i64 (at_ : Int), .int .i64 0] 42 (0, 0)) = x) := ⟨_, rfl⟩
  have hP0 : SLoop w wa b s nb md at_ R (.slice none 0 0) [] [] at_ := by
    refine ⟨by rw [← HWA.out]; exact (H.out.alloc _).alloc _, ?_, NestOwn.nil _ _, ?_, by simp, by rw [← HWA.out]; exact ((Kept.refl _ _).alloc _).alloc _, _, Nat.lt_succ_self _, HRR.out⟩
    · rw [← HWA.out, ← HNB.out]
      have := newIn (w.alloc (.cells #[.string ⟨#[]⟩, .slice none 0 0, .slice none 0 0, .int .i64 0, .int .i64 0] 42 (0, 0))) (.cells #[.string (str md), .slice none 0 0, .slice none 0 0, .int .i64 (at_ : Int), .int .i64 0] 42 (0, 0))
      simpa using this
    · rw [← HWA.out]; exact oldIn (newIn _ _) _
  have HP0 := Lib.hid hP0
  have hnb1 : nb ≤ w.heap.size + 1 := by have := HNB.out; omega
  have hnb2 : w.heap.size + 1 ≤ nb := by have := HNB.out; omega
  clear hP0 c1
  rw [HWA.out, HNB.out]
  have hbnb : b < nb := by omega
  clear HWA
  go_cut [] (fun wx => ∃ sv ss vs at', SDone w wx b s nb md at_ R sv ss vs at')
  case first =>
    go_wp2_with fail
    go_loopg [] (s.length - at_) (fun k wr => ∃ sv ss vs at', SLoop w wr b s nb md at_ R sv ss vs at' ∧ k = s.length - at')
    case atStart => exact ⟨_, _, _, at_, HP0.out, rfl⟩
    case round =>
      obtain ⟨sv, ss, vs, at', hL, hk⟩ := hrel
      obtain ⟨lo, lc, rfl⟩ := hL.own.form
      have HL := Lib.hid hL
      have hfew := hL.few
      have hl' := hL.rd.2.1
      have x2 := cellIn hL.node 1 rfl
      have y2 := freeIn hL.node 1
      have hnlt := ltIn hL.node
      have hmr : wr.cell? ⟨0, 0, none⟩ = some (.int .i64 m) := hL.kept.cell (by show ¬ (0 = b); omega) HM.out
      have HMR := Lib.hid hmr
      obtain ⟨f0, hf0, hr0⟩ := hL.rest
      cases f0 with
      | zero => omega
      | succ f =>
      have HST := Lib.hid (sSelsL_step hr0)
      have HF := Lib.hid hf0
      clear hL hr0 hf0 hmr
      by_cases h8 : ss.length = 8
      · have e8 : ((ss.length : Int) == 8) = true := by simp; omega
        have hR : Hid (r = .bad ⟨5, at'⟩) := Lib.hid (by
          have h1 := HST.out
          rw [if_pos h8] at h1
          rw [← HR.out]; unfold sRule; rw [HRR.out, ← h1]; rfl)
        clear h8
        go_wp2_with fail
        refine (sfail_any 5 _ _ _ _ HL.out.rd).mono ?_
        rintro e w9 ⟨rfl, hq9⟩
        go_wp2_with fail
        exact ⟨rfl, .bad (HL.out.kept.trans (hq9.kept _)) hR.out⟩
      · have e8 : ((ss.length : Int) == 8) = false := by simp; omega
        have HST1 : Hid (((sSel (s.drop at') at').then fun x => if ([44] : B).isPrefixOf x.2.1 then (sGap (x.2.1.drop 1) (x.2.2 + 1)).then fun y => sSelsL f (ss ++ [x.1]) y.1 y.2 else .ok (ss ++ [x.1], x.2.1, x.2.2)) = R) := Lib.hid (by rw [← HST.out, if_neg h8])
        have hfew8 : ss.length + 1 ≤ 8 := by omega
        clear h8
        have hbn' : ¬ nb = b := by omega
        have hbn : ¬ b = nb := by omega
        have HC := Lib.hid (ssel_sum wr.drew b s at' m HL.out.rd HMR.out hb0)
        have HB : Hid (∀ (g : Flt) (w4 : World), sSel (s.drop at') at' = .bad g → Kept (· = b) wr.drew w4 → SSum r w b s (RuleRet w) (sthrown g) w4) := Lib.hid fun g w4 hp2 hk4 => by
          refine .bad (HL.out.kept.drew.trans hk4) ?_
          have h1 := HST1.out
          rw [hp2] at h1
          rw [← HR.out]; unfold sRule; rw [HRR.out, ← h1]; rfl
        have h63 : ss.length + 1 ≤ maxLen := by unfold maxLen; omega
        have HNO : Hid (some nb ≠ (Value.slice lo ss.length lc).ownBlock) := Lib.hid fun hx => by
          have := (HL.out.own.own.lt nb hx.symm).1; omega
        go_upto_region 4 with fail
        go_cut [] (fun wx => ∃ ps sv2 vs2 at4, SMid w wx b s nb md at_ at' ss ps sv2 vs2 at4)
        case' first => go_region_law
          (first
            | (go_simp; go_at_call 50; go_loud (refine HC.out.mono ?_; rintro e w4 (⟨g, rfl, hk4, hp2⟩ | ⟨ps, at4, ⟨pv, rfl, hpv⟩, hk4, hr4, hp2⟩); (exact ⟨rfl, HB.out g w4 hp2.out hk4⟩); obtain ⟨va, vc, rfl⟩ : ∃ a c, pv = .slice a ps.length c := (by obtain ⟨tvs, h1, ⟨a, cap, h2, _⟩, _⟩ := hpv; exact ⟨a, cap, by simpa [h1] using h2⟩); have how4 := (HL.out.own.kept (w' := w4) parts_lasts (by omega) (((Kept.refl (· = b) _).drew).trans hk4)).own; have hz4 : wr.heap.size ≤ w4.heap.size := hk4.size; have x4 : w4.cell? ⟨nb, 1, none⟩ = some (.slice lo ss.length lc) := hk4.cell (a := wr.drew) hbn' x2; have y4 : w4.frozen? ⟨nb, 1, none⟩ = false := hk4.frozen (a := wr.drew) hbn' hnlt y2; have x4a : ∀ o, (w4.alloc o).cell? ⟨nb, 1, none⟩ = some (.slice lo ss.length lc) := fun o => cell_alloc x4 o; have y4a : ∀ o, (w4.alloc o).frozen? ⟨nb, 1, none⟩ = false := fun o => frozen_alloc' (by show nb < _; omega) y4 o))
            | (refine step_append_lies _ (by rfl) _ _ _ (by rfl) (nb + 1) 59 i0 _ 1 24 Try.underlying40 hi0 hz0 hz1 hz2 rfl (by omega) (.slice lo ss.length lc) ss.length _ (by rfl) (how4.alloc _) ⟨w4.heap.size, 0, none⟩ 1 1 [.slice va ps.length vc] (by rfl) (by rfl) (World.news_of_block (cs := #[.slice va ps.length vc]) (t := 59) (fr := (0, 0)) (heap_alloc_new w4 _)) (by simp [Value.oneCell']) (by omega) h63 (by omega) (by simp; omega) (w4.heap.size + 1) (by simp) ?_; intro gg cap w5 hown5 hgrow hat hlt5; have x5 : w5.cell? ⟨nb, 1, none⟩ = some (.slice lo ss.length lc) := (hgrow.cell_far _ (by simp; omega) HNO.out).trans (x4a _); have y5 : w5.frozen? ⟨nb, 1, none⟩ = false := (hgrow.frozen_far _ (by simp; omega) HNO.out).trans (y4a _)))
        case rest =>
          obtain ⟨ps, sv2, vs2, at4, hMd⟩ := hcut
          have HMd := Lib.hid hMd
          have hl4 := hMd.rd.2.1
          have hlt4 : at' < at4 := sel_loc.2 _ _ _ _ _ hMd.ok
          have hpok := Lib.hid hMd.ok
          clear hMd
          cases p44 : ([44] : B).isPrefixOf (s.drop at4) with
          | false =>
            have hR : Hid (R = .ok (ss ++ [ps], s.drop at4, at4)) := Lib.hid (by rw [← HST1.out, hpok.out, Ans.ok_then]; simp only; rw [p44, if_neg (by simp)])
            go_wp2_with fail
            refine (seat_is false [44] _ _ _ _ HMd.out.rd p44).mono ?_
            rintro e w6 ⟨rfl, hk6, h6⟩
            have h6' : SdAt w6 b s at4 := h6
            have hd : SDone w w6 b s nb md at_ R sv2 (ss ++ [ps]) vs2 at4 :=
              ⟨h6', hk6.heap (by omega) HMd.out.node, HMd.out.own.kept parts_lasts (by omega) hk6, hk6.heap (by omega) HMd.out.res, HMd.out.kept.trans hk6, hR.out⟩
            have HDN := Lib.hid hd
            clear hk6 h6 h6' hd p44
            go_wp2_with fail
            go_meet
            case rel => exact ⟨_, _, _, at4, HDN.out⟩
          | true =>
            have HST2 : Hid (((sGap (s.drop (at4 + 1)) (at4 + 1)).then fun y => sSelsL f (ss ++ [ps]) y.1 y.2) = R) := Lib.hid (by rw [← HST1.out, hpok.out, Ans.ok_then]; simp only; rw [p44, if_pos rfl, List.drop_drop])
            go_wp2_with fail
            refine (seat_is true [44] _ _ _ _ HMd.out.rd p44).mono ?_
            rintro e w6 ⟨rfl, hk6, h6⟩
            have h6' : SdAt w6 b s (at4 + 1) := h6
            have H6 := Lib.hid h6'
            have HK6 := Lib.hid hk6
            have HM6 := Lib.hid ((HMd.out.kept.trans hk6).cell (by show ¬ (0 = b); omega) HM.out)
            clear hk6 h6 h6' p44
            go_wp2_with fail
            refine (sblank_sum _ _ _ _ m H6.out HM6.out hb0).mono ?_
            rintro e w7 (⟨g, rfl, hk, hp⟩ | ⟨at7, rfl, hk, h7, hp⟩)
            · have hR : Hid (r = .bad g) := Lib.hid (by
                have h1 := HST2.out
                rw [hp.out] at h1
                rw [← HR.out]; unfold sRule; rw [HRR.out, ← h1]; rfl)
              have KB := Lib.hid ((HMd.out.kept.trans HK6.out).trans hk)
              clear hk
              go_wp2_with fail
              exact ⟨rfl, .bad KB.out hR.out⟩
            · have hl7 := h7.2.1
              have hle7 : at4 + 1 ≤ at7 := by obtain ⟨_, _, h1, h2, _⟩ := gap_loc hp.out; omega
              have hkk := HK6.out.trans hk
              have hd : SLoop w w7 b s nb md at_ R sv2 (ss ++ [ps]) vs2 at7 :=
                ⟨h7, hkk.heap (by omega) HMd.out.node, HMd.out.own.kept parts_lasts (by omega) hkk, hkk.heap (by omega) HMd.out.res, by simpa using hfew8, HMd.out.kept.trans hkk, f, by have := HF.out; rw [List.length_drop] at this ⊢; omega, by
                  have h1 := HST2.out
                  rw [hp.out, Ans.ok_then] at h1
                  exact h1⟩
              have HDN := Lib.hid hd
              clear hk h7 hkk hd
              go_wp2_with fail
              go_roundg (s.length - at7)
              case measure => omega
              case rel => exact ⟨_, _, _, at7, HDN.out, rfl⟩
        all_goals
          go_wp2_with fail
          go_meet
          case rel => exact ⟨ps, _, _, at4, sel_round HL.out hbnb hblt hnb2 hk4 hr4 hp2.out hpv hown5 hgrow hat⟩
  case rest =>
    obtain ⟨sv, ss, vs, at', hD⟩ := hcut
    obtain ⟨lo, lc, rfl⟩ := hD.own.form
    have HD := Lib.hid hD
    have HE : Hid (((pMust [123] (s.drop at') at').then fun x => (sDecls x.1 x.2).then fun y => (pMust [125] y.2.1 y.2.2).then fun z => Ans.ok ((⟨md, ss, y.1, (at_ : Int), (z.2 : Int)⟩ : PRule), z.1, z.2)) = r) := Lib.hid (by
      rw [← HR.out]; unfold sRule; rw [HRR.out, hD.ok]; rfl)
    clear hD
    go_wp2_with fail
    refine (smust_sum [123] _ _ _ _ HD.out.rd).mono ?_
    rintro e w1 (⟨g, rfl, hk, hp⟩ | ⟨at1, rfl, hk, h1, hp⟩)
    · have hR : Hid (r = .bad g) := Lib.hid (by rw [← HE.out, hp.out]; rfl)
      have KB := Lib.hid (HD.out.kept.trans hk)
      clear hk
      go_wp2_with fail
      exact ⟨rfl, .bad KB.out hR.out⟩
    · have HE1 : Hid (((sDecls (s.drop at1) at1).then fun y => (pMust [125] y.2.1 y.2.2).then fun z => Ans.ok ((⟨md, ss, y.1, (at_ : Int), (z.2 : Int)⟩ : PRule), z.1, z.2)) = r) := Lib.hid (by rw [← HE.out, hp.out]; rfl)
      have J1 := Lib.hid hk
      have K1 := Lib.hid (HD.out.kept.trans hk)
      have H1 := Lib.hid h1
      have HM1 := Lib.hid (K1.out.cell (by show ¬ (0 = b); omega) HM.out)
      clear hk h1
      go_wp2_with fail
      refine (sdecls_sum _ _ _ _ m H1.out HM1.out hb0).mono ?_
      rintro e w2 (⟨g, rfl, hk, hp⟩ | ⟨ds, at2, ⟨dv, rfl, hdv⟩, hk, h2, hp⟩)
      · have hR : Hid (r = .bad g) := Lib.hid (by rw [← HE1.out, hp.out]; rfl)
        have KB := Lib.hid (K1.out.trans hk)
        clear hk
        go_wp2_with fail
        exact ⟨rfl, .bad KB.out hR.out⟩
      · obtain ⟨da, dc, rfl⟩ : ∃ a c, dv = .slice a ds.length c := by
          obtain ⟨a, cap, h, _⟩ := hdv.1; exact ⟨a, cap, by simpa using h⟩
        have HE2 : Hid (((pMust [125] (s.drop at2) at2).then fun z => Ans.ok ((⟨md, ss, ds, (at_ : Int), (z.2 : Int)⟩ : PRule), z.1, z.2)) = r) := Lib.hid (by rw [← HE1.out, hp.out]; rfl)
        have hbn' : ¬ nb = b := by omega
        have hbn : b ≠ nb := by omega
        have J2 := Lib.hid (J1.out.trans hk)
        have K2 := Lib.hid (K1.out.trans hk)
        have H2 := Lib.hid h2
        have hn2 := (J1.out.trans hk).heap hbn' HD.out.node
        have N2 := Lib.hid hn2
        have n2 := cellIn hn2 2 rfl
        have nf2 := freeIn hn2 2
        have V2 := Lib.hid hdv
        have hnlt1 : nb < w1.heap.size := ltIn (J1.out.heap hbn' HD.out.node)
        have HWS : Hid (w.heap.size ≤ w1.heap.size) := Lib.hid K1.out.size
        clear hk h2 hn2 hdv
        go_upto_region 9 with fail
        have H3 := Lib.hid (H2.out.other (p := ⟨nb, 2, none⟩) (x := .slice da ds.length dc) hbn)
        have K3 := Lib.hid (K2.out.setCell (p := ⟨nb, 2, none⟩) (.inr (by show w.heap.size ≤ nb; omega)) (.slice da ds.length dc))
        have KN := Lib.hid ((Kept.refl (· = nb) w2).setCell (p := ⟨nb, 2, none⟩) (.inl rfl) (.slice da ds.length dc))
        have hn3 : (w2.setCell ⟨nb, 2, none⟩ (.slice da ds.length dc)).heap[nb]? = some (.cells #[.string (str md), .slice lo ss.length lc, .slice da ds.length dc, .int .i64 (at_ : Int), .int .i64 0] 42 (0, 0)) := by
          have := setIn N2.out 2 (.slice da ds.length dc)
          simpa using this
        have N3 := Lib.hid hn3
        clear n2 nf2 hn3
        generalize (w2.setCell ⟨nb, 2, none⟩ (.slice da ds.length dc)) = w3 at *
        go_wp2_with fail
        refine (smust_sum [125] _ _ _ _ H3.out).mono ?_
        rintro e w4 (⟨g, rfl, hk, hp⟩ | ⟨at4, rfl, hk, h4, hp⟩)
        · have hR : Hid (r = .bad g) := Lib.hid (by rw [← HE2.out, hp.out]; rfl)
          have KB := Lib.hid (K3.out.trans hk)
          clear hk
          go_wp2_with fail
          exact ⟨rfl, .bad KB.out hR.out⟩
        · have hR : Hid (r = .ok (⟨md, ss, ds, (at_ : Int), (at4 : Int)⟩, s.drop at4, at4)) := Lib.hid (by rw [← HE2.out, hp.out]; rfl)
          have c1 := h4.c1
          have K4 := Lib.hid (K3.out.trans hk)
          have H4 := Lib.hid h4
          have hn4 := hk.heap hbn' N3.out
          have N4 := Lib.hid hn4
          have HK4 := Lib.hid hk
          have hres : w4.heap[w.heap.size]? = some (.cells #[.string ⟨#[]⟩, .slice none 0 0, .slice none 0 0, .int .i64 0, .int .i64 0] 42 (0, 0)) :=
            hk.heap (by omega) (KN.out.heap (by omega) (J2.out.heap (by omega) HD.out.res))
          have m0 := cellIn hn4 0 rfl
          have m1 := cellIn hn4 1 rfl
          have m2 := cellIn hn4 2 rfl
          have m3 := cellIn hn4 3 rfl
          have m4 := cellIn hn4 4 rfl
          have mf4 := freeIn hn4 4
          have q0 := cellIn hres 0 rfl
          have q1 := cellIn hres 1 rfl
          have q2 := cellIn hres 2 rfl
          have q3 := cellIn hres 3 rfl
          have q4 := cellIn hres 4 rfl
          have qf0 := freeIn hres 0
          have qf1 := freeIn hres 1
          have qf2 := freeIn hres 2
          have qf3 := freeIn hres 3
          have qf4 := freeIn hres 4
          have hnr : ¬ nb = w.heap.size := by omega
          have hnr' : ¬ w.heap.size = nb := by omega
          clear hk h4 hn4 hres
          have hbr : b ≠ w.heap.size := by omega
          have hfin : ∀ wf, wf = ((((((w4.setCell ⟨nb, 4, none⟩ (.int .i64 (at4 : Int))).setCell ⟨w.heap.size, 0, none⟩ (.string (str md))).setCell ⟨w.heap.size, 1, none⟩ (.slice lo ss.length lc)).setCell ⟨w.heap.size, 2, none⟩ (.slice da ds.length dc)).setCell
              ⟨w.heap.size, 3, none⟩ (.int .i64 (at_ : Int))).setCell ⟨w.heap.size, 4, none⟩ (.int .i64 (at4 : Int))) →
              SSum r w b s (RuleRet w) (.returned (.agg #[.string (str md), .slice lo ss.length lc, .slice da ds.length dc, .int .i64 (at_ : Int), .int .i64 (at4 : Int)])) wf := by
            rintro wf rfl
            have kf : Kept (fun k => k = nb ∨ k = w.heap.size) w4 ((((((w4.setCell ⟨nb, 4, none⟩ (.int .i64 (at4 : Int))).setCell ⟨w.heap.size, 0, none⟩ (.string (str md))).setCell ⟨w.heap.size, 1, none⟩ (.slice lo ss.length lc)).setCell ⟨w.heap.size, 2, none⟩ (.slice da ds.length dc)).setCell
              ⟨w.heap.size, 3, none⟩ (.int .i64 (at_ : Int))).setCell ⟨w.heap.size, 4, none⟩ (.int .i64 (at4 : Int))) :=
              ((((((Kept.refl _ w4).setCell (p := ⟨nb, 4, none⟩) (.inl (.inl rfl)) _).setCell (p := ⟨w.heap.size, 0, none⟩) (.inl (.inr rfl)) _).setCell (p := ⟨w.heap.size, 1, none⟩) (.inl (.inr rfl)) _).setCell (p := ⟨w.heap.size, 2, none⟩) (.inl (.inr rfl)) _).setCell
                (p := ⟨w.heap.size, 3, none⟩) (.inl (.inr rfl)) _).setCell (p := ⟨w.heap.size, 4, none⟩) (.inl (.inr rfl)) _
            have k24 : Kept (fun k => k = b ∨ k = nb ∨ k = w.heap.size) w2 w4 := (KN.out.mono (fun k _ h => .inr (.inl h))).trans (HK4.out.mono (fun k _ h => .inl h))
            have k2f := k24.trans (kf.mono (fun k _ h => .inr h))
            have kcf := (J2.out.mono (T := fun k => k = b ∨ k = nb ∨ k = w.heap.size) (fun k _ h => .inl h)).trans k2f
            have hws := HWS.out
            refine .inr ⟨_, at4, ⟨_, _, rfl, ?_, ?_⟩, K4.out.trans' kf (fun k hk hs => by rcases hs with hs | hs <;> omega), H4.out.kept kf (by rintro (h | h) <;> omega), hR⟩
            · exact sels_lasts _ _ _ _ _ _ _ (HD.out.own.done selCells_len parts_lasts) kcf (fun k _ hs => by show k < nb + 1; rcases hs with hs | hs | hs <;> omega) (fun k _ hx => by have hx' : k < w.heap.size := hx; show k < nb + 1; omega)
            · exact decls_lasts _ _ _ _ _ _ _ V2.out k2f (fun k _ hs => by show k < w1.heap.size; rcases hs with hs | hs | hs <;> omega) (fun k _ hx => by have hx' : k < w.heap.size := hx; show k < w1.heap.size; omega)
          have HFIN := Lib.hid hfin
          clear hfin
          go_wp2_with fail
          refine bodyPost_ret (v := .agg #[.string (str md), .slice lo ss.length lc, .slice da ds.length dc, .int .i64 (at_ : Int), .int .i64 (at4 : Int)]) (by simp [results, Try.results35, go_sem, q0, q1, q2, q3, q4, m0, m1, m2, m3, m4]) rfl ?_
          exact HFIN.out _ rfl

end Go.Proofs.Ytplbdlgmjehckab
