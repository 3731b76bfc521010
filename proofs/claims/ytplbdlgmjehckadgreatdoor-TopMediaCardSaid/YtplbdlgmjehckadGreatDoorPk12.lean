/-
  Lemmas for the claims of this seat: the program's functions walked, and plain laws. In this order: ShRule ShRules ShGuard.
-/
import Derived.Test.YtplbdlgmjehckadGreatDoorPk10
import Derived.Test.YtplbdlgmjehckadGreatDoorPk11
import Derived.Test.YtplbdlgmjehckadGreatDoorPk2
import Derived.Test.YtplbdlgmjehckadGreatDoorPk9
import Derived.Recover
import Derived.WideLaws
namespace Go.Proofs.YtplbdlgmjehckadGreatDoor
open Go.RowKit
set_option linter.unusedVariables false
set_option linter.unusedSimpArgs false
abbrev SelOwn := NestOwn selCells 1 169 PartsIn
theorem NestOwn.push2 {α : Type} {f : α → Value → List Value} {size e : Nat} {Q : World → (Nat → Prop) → Value → α → Prop} {w wm w' : World} {base gg cap : Nat} {v : Value} {xs : List α} {vs : List Value} {x : α} {u : Value} (h : NestOwn f size e Q w base v xs vs) (hQ : Lasts Q)
    (hu : Q w (fun k => k < base ∨ v.ownBlock = some k) u x) (hm : Kept (fun _ => False) w wm)
    (hown : w'.ownsRow base e size (.slice (some ⟨gg, 0, none⟩) (xs.length + 1) cap) (xs.length + 1) ((List.zipWith f xs vs).flatten ++ f x u)) (hg : wm.grownBy w' v.ownBlock) (hat : v.ownBlock = some gg ∨ w.heap.size ≤ gg) :
    NestOwn f size e Q w' base (.slice (some ⟨gg, 0, none⟩) (xs.length + 1) cap) (xs ++ [x]) (vs ++ [u]) := by
  have hk : Kept (fun k => v.ownBlock = some k) w w' := (hm.mono (T := fun k => v.ownBlock = some k) (fun _ _ h => h.elim)).grown hg (fun k hk => .inl hk)
  have new : ∀ {y : α} {z : Value}, Q w (fun k => k < base ∨ v.ownBlock = some k) z y → Q w' (fun k => k < base ∨ (Value.slice (some ⟨gg, 0, none⟩) (xs.length + 1) cap).ownBlock = some k) z y := fun hq =>
    hQ _ _ _ _ _ _ _ hq hk (fun k _ hs => .inr hs) (fun k hlt hx => by
      rcases hx with hx | hx
      · exact .inl hx
      · simp only [Value.ownBlock, Option.some.injEq] at hx
        subst hx
        rcases hat with h1 | h1
        · exact .inr h1
        · omega)
  refine ⟨by simp [h.len], ?_, fun i y z hy hz => ?_⟩
  · rw [List.zipWith_append (by rw [h.len])]
    simpa using hown
  · by_cases hi : i < xs.length
    · rw [List.getElem?_append_left hi] at hy
      rw [List.getElem?_append_left (by rw [h.len]; exact hi)] at hz
      exact new (h.nest i y z hy hz)
    · have hi2 := (List.getElem?_eq_some_iff.1 hy).1
      simp at hi2
      have : i = xs.length := by omega
      subst this
      simp at hy
      rw [← h.len] at hz
      simp at hz
      subst hy; subst hz
      exact new hu
theorem sSelsL_step {f : Nat} {ss : List PSel} {l : B} {a : Nat} {r : Ans (List PSel × B × Nat)} (h : sSelsL (f + 1) ss l a = r) :
    (if ss.length = 8 then .bad ⟨5, a⟩ else (sSel l a).then fun x => if ([44] : B).isPrefixOf x.2.1 then (sGap (x.2.1.drop 1) (x.2.2 + 1)).then fun y => sSelsL f (ss ++ [x.1]) y.1 y.2 else .ok (ss ++ [x.1], x.2.1, x.2.2)) = r := by
  rw [← h, sSelsL]
structure SLoop (w wr : World) (b : Nat) (s : B) (nb : Nat) (md : B) (at0 : Nat) (r : Ans (List PSel × B × Nat)) (sv : Value) (ss : List PSel) (vs : List Value) (at' : Nat) : Prop where
  rd : SdAt wr b s at'
  node : wr.heap[nb]? = some (.cells #[.string (str md), sv, .slice none 0 0, .int .i64 (at0 : Int), .int .i64 0] 49 (0, 0))
  own : SelOwn wr (nb + 1) sv ss vs
  res : wr.heap[w.heap.size]? = some (.cells #[.string ⟨#[]⟩, .slice none 0 0, .slice none 0 0, .int .i64 0, .int .i64 0] 49 (0, 0))
  few : ss.length ≤ 8
  kept : Kept (· = b) w wr
  rest : ∃ f, (s.drop at').length < f ∧ sSelsL f ss (s.drop at') at' = r
structure SDone (w wr : World) (b : Nat) (s : B) (nb : Nat) (md : B) (at0 : Nat) (r : Ans (List PSel × B × Nat)) (sv : Value) (ss : List PSel) (vs : List Value) (at' : Nat) : Prop where
  rd : SdAt wr b s at'
  node : wr.heap[nb]? = some (.cells #[.string (str md), sv, .slice none 0 0, .int .i64 (at0 : Int), .int .i64 0] 49 (0, 0))
  own : SelOwn wr (nb + 1) sv ss vs
  res : wr.heap[w.heap.size]? = some (.cells #[.string ⟨#[]⟩, .slice none 0 0, .slice none 0 0, .int .i64 0, .int .i64 0] 49 (0, 0))
  kept : Kept (· = b) w wr
  ok : r = .ok (ss, s.drop at', at')
structure SMid (w wr : World) (b : Nat) (s : B) (nb : Nat) (md : B) (at0 at' : Nat) (ss : List PSel) (ps : PSel) (sv : Value) (vs : List Value) (at4 : Nat) : Prop where
  rd : SdAt wr b s at4
  node : wr.heap[nb]? = some (.cells #[.string (str md), sv, .slice none 0 0, .int .i64 (at0 : Int), .int .i64 0] 49 (0, 0))
  own : SelOwn wr (nb + 1) sv (ss ++ [ps]) vs
  res : wr.heap[w.heap.size]? = some (.cells #[.string ⟨#[]⟩, .slice none 0 0, .slice none 0 0, .int .i64 0, .int .i64 0] 49 (0, 0))
  kept : Kept (· = b) w wr
  ok : sSel (s.drop at') at' = .ok (ps, s.drop at4, at4)
theorem sel_round {w wr w4 w5 : World} {b nb at0 at' at4 gg cap : Nat} {s md : B} {R : Ans (List PSel × B × Nat)} {v pv : Value} {ss : List PSel} {vs : List Value} {ps : PSel} {o : Obj}
    (hL : SLoop w wr b s nb md at0 R v ss vs at') (hb : b < nb) (hblt : b < w.heap.size) (hnb : w.heap.size + 1 ≤ nb) (hk4 : Kept (· = b) wr.drew w4) (hr4 : SdAt w4 b s at4) (hp : sSel (s.drop at') at' = .ok (ps, s.drop at4, at4)) (hpv : PartsIn w4 (fun k => k < wr.heap.size) pv ps)
    (hown5 : w5.ownsRow (nb + 1) 169 1 (.slice (some ⟨gg, 0, none⟩) (ss.length + 1) cap) (ss.length + 1) ((List.zipWith selCells ss vs).flatten ++ [pv]))
    (hgrow : (w4.alloc o).grownBy w5 v.ownBlock) (hat : v.ownBlock = some gg ∨ gg = w4.heap.size + 1) :
    SMid w (w5.setCell ⟨nb, 1, none⟩ (.slice (some ⟨gg, 0, none⟩) (ss.length + 1) cap)) b s nb md at0 at' ss ps (.slice (some ⟨gg, 0, none⟩) (ss.length + 1) cap) (vs ++ [pv]) at4 := by
  have hlt := hL.own.own.lt
  have hno : ¬ v.ownBlock = some nb := fun h => by have := (hlt nb h).1; omega
  have hkw : Kept (· = b) wr w4 := ((Kept.refl (· = b) _).drew).trans hk4
  have hk5 : Kept (fun k => v.ownBlock = some k) w4 w5 := ((Kept.refl _ w4).alloc o).grown hgrow (fun k hk => .inl hk)
  have o4 : SelOwn w4 (nb + 1) v ss vs := hL.own.kept parts_lasts (by omega) hkw
  have hsz := hkw.size
  have o5 : SelOwn w5 (nb + 1) (.slice (some ⟨gg, 0, none⟩) (ss.length + 1) cap) (ss ++ [ps]) (vs ++ [pv]) := by
    refine o4.push2 parts_lasts ?_ ((Kept.refl _ _).alloc o) hown5 hgrow (by rcases hat with h | h; exact .inl h; exact .inr (by omega))
    exact parts_lasts _ _ _ _ (fun _ => False) _ _ hpv (Kept.refl _ _) (fun k _ hs => hs.elim) (fun k _ hx => by
      rcases hx with hx | hx
      · have := ltIn hL.node; show k < wr.heap.size; omega
      · exact (hlt k hx).2)
  have hn4 : w4.heap[nb]? = _ := hkw.heap (by omega) hL.node
  have hw : Kept (· = b) w w4 := hL.kept.trans hkw
  have hsw := hL.kept.size
  refine ⟨(hr4.kept hk5 (fun h => by have := (hlt b h).1; omega)).other (by show b ≠ nb; omega), ?_, ?_, ?_, ?_, hp⟩
  · have := setIn (hk5.heap hno hn4) 1 (.slice (some ⟨gg, 0, none⟩) (ss.length + 1) cap)
    simpa using this
  · exact o5.kept parts_lasts (b := nb) (by omega) ((Kept.refl (· = nb) _).setCell (p := ⟨nb, 1, none⟩) (.inl rfl) _)
  · refine otherIn (hk5.heap (fun h => by have := (hlt _ h).1; omega) (hkw.heap (by omega) hL.res)) _ _ (by show w.heap.size ≠ nb; omega)
  · exact ((hw.alloc o).grown hgrow (fun k hk => .inr (by have := (hlt k hk).1; omega))).setCell (p := ⟨nb, 1, none⟩) (.inr (by show w.heap.size ≤ nb; omega)) _
def RuleRet (w : World) (w' : World) (u : PRule) (e : Ending) : Prop := ∃ sv dv, e = .returned (.agg #[.string (str u.media), sv, dv, .int .i64 u.lo, .int .i64 u.hi]) ∧ SelsIn w' (fun k => k < w.heap.size) sv u.sels ∧ DeclsIn w' (fun k => k < w.heap.size) dv u.decls
set_option maxRecDepth 100000 in
set_option maxHeartbeats 6400000 in
theorem srule_sum (md : B) (w : World) (b : Nat) (s : B) (at_ : Nat) (m : Int) (h : SdAt w b s at_) (hm : w.cell? ⟨0, 0, none⟩ = some (.int .i64 m)) (hb0 : 0 < b) :
    Calls Tryz.prog 73 #[.pointer (some ⟨b, 0, none⟩), .string (str md)] w (SSum (sRule md (s.drop at_) at_) w b s (RuleRet w)) := by
  obtain ⟨r, HR⟩ : ∃ r, Hid (sRule md (s.drop at_) at_ = r) := ⟨_, rfl⟩
  rw [HR.out]
  obtain ⟨R, HRR⟩ : ∃ R, Hid (sSelsL ((s.drop at_).length + 1) [] (s.drop at_) at_ = R) := ⟨_, rfl⟩
  have HM := Lib.hid hm
  obtain ⟨i0, hi0, hz0, hz1, hz2⟩ := info_parts info_sel
  have H := Lib.hid h
  have hl := h.2.1
  have hmx := h.2.2
  have hblt := h.lt
  have c1 := h.c1
  clear h hm
  go_enter Tryz.func73, Tryz.ntmps73
  go_upto_block 0 with fail
  obtain ⟨nb, HNB⟩ : ∃ nb, Hid (w.heap.size + 1 = nb) := ⟨_, rfl⟩
  obtain ⟨wa, HWA⟩ : ∃ x, Hid ((w.alloc (.cells #[.string ⟨#[]⟩, .slice none 0 0, .slice none 0 0, .int .i64 0, .int .i64 0] 49 (0, 0))).alloc (.cells #[.string (str md), .slice none 0 0, .slice none 0 0, .int .i64 (at_ : Int), .int .i64 0] 49 (0, 0)) = x) := ⟨_, rfl⟩
  have hP0 : SLoop w wa b s nb md at_ R (.slice none 0 0) [] [] at_ := by
    refine ⟨by rw [← HWA.out]; exact (H.out.alloc _).alloc _, ?_, NestOwn.nil _ _, ?_, by simp, by rw [← HWA.out]; exact ((Kept.refl _ _).alloc _).alloc _, _, Nat.lt_succ_self _, HRR.out⟩
    · rw [← HWA.out, ← HNB.out]
      have := newIn (w.alloc (.cells #[.string ⟨#[]⟩, .slice none 0 0, .slice none 0 0, .int .i64 0, .int .i64 0] 49 (0, 0))) (.cells #[.string (str md), .slice none 0 0, .slice none 0 0, .int .i64 (at_ : Int), .int .i64 0] 49 (0, 0))
      simpa using this
    · rw [← HWA.out]; exact oldIn (newIn _ _) _
  have HP0 := Lib.hid hP0
  have hnb1 : nb ≤ w.heap.size + 1 := by have := HNB.out; omega
  have hnb2 : w.heap.size + 1 ≤ nb := by have := HNB.out; omega
  clear hP0 c1
  rw [HWA.out, HNB.out]
  have hbnb : b < nb := by omega
  clear HWA
  go_cut [] (fun wx => ∃ sv ss vs at', SDone w wx b s nb md at_ R sv ss vs at')
  case first =>
    go_wp2_with fail
    go_loopg [] (s.length - at_) (fun k wr => ∃ sv ss vs at', SLoop w wr b s nb md at_ R sv ss vs at' ∧ k = s.length - at')
    case atStart => exact ⟨_, _, _, at_, HP0.out, rfl⟩
    case round =>
      obtain ⟨sv, ss, vs, at', hL, hk⟩ := hrel
      obtain ⟨lo, lc, rfl⟩ := hL.own.form
      have HL := Lib.hid hL
      have hfew := hL.few
      have hl' := hL.rd.2.1
      have x2 := cellIn hL.node 1 rfl
      have y2 := freeIn hL.node 1
      have hnlt := ltIn hL.node
      have hmr : wr.cell? ⟨0, 0, none⟩ = some (.int .i64 m) := hL.kept.cell (by show ¬ (0 = b); omega) HM.out
      have HMR := Lib.hid hmr
      obtain ⟨f0, hf0, hr0⟩ := hL.rest
      cases f0 with
      | zero => omega
      | succ f =>
      have HST := Lib.hid (sSelsL_step hr0)
      have HF := Lib.hid hf0
      clear hL hr0 hf0 hmr
      by_cases h8 : ss.length = 8
      · have e8 : ((ss.length : Int) == 8) = true := by simp; omega
        have hR : Hid (r = .bad ⟨5, at'⟩) := Lib.hid (by
          have h1 := HST.out
          rw [if_pos h8] at h1
          rw [← HR.out]; unfold sRule; rw [HRR.out, ← h1]; rfl)
        clear h8
        go_wp2_with fail
        refine (sfail_any 5 _ _ _ _ HL.out.rd).mono ?_
        rintro e w9 ⟨rfl, hq9⟩
        go_wp2_with fail
        exact ⟨rfl, .bad (HL.out.kept.trans (hq9.kept _)) hR.out⟩
      · have e8 : ((ss.length : Int) == 8) = false := by simp; omega
        have HST1 : Hid (((sSel (s.drop at') at').then fun x => if ([44] : B).isPrefixOf x.2.1 then (sGap (x.2.1.drop 1) (x.2.2 + 1)).then fun y => sSelsL f (ss ++ [x.1]) y.1 y.2 else .ok (ss ++ [x.1], x.2.1, x.2.2)) = R) := Lib.hid (by rw [← HST.out, if_neg h8])
        have hfew8 : ss.length + 1 ≤ 8 := by omega
        clear h8
        have hbn' : ¬ nb = b := by omega
        have hbn : ¬ b = nb := by omega
        have HC := Lib.hid (ssel_sum wr.drew b s at' m HL.out.rd HMR.out hb0)
        have HB : Hid (∀ (g : Flt) (w4 : World), sSel (s.drop at') at' = .bad g → Kept (· = b) wr.drew w4 → SSum r w b s (RuleRet w) (sthrown g) w4) := Lib.hid fun g w4 hp2 hk4 => by
          refine .bad (HL.out.kept.drew.trans hk4) ?_
          have h1 := HST1.out
          rw [hp2] at h1
          rw [← HR.out]; unfold sRule; rw [HRR.out, ← h1]; rfl
        have h63 : ss.length + 1 ≤ maxLen := by unfold maxLen; omega
        have HNO : Hid (some nb ≠ (Value.slice lo ss.length lc).ownBlock) := Lib.hid fun hx => by
          have := (HL.out.own.own.lt nb hx.symm).1; omega
        go_upto_region 4 with fail
        go_cut [] (fun wx => ∃ ps sv2 vs2 at4, SMid w wx b s nb md at_ at' ss ps sv2 vs2 at4)
        case' first => go_region_law
          (first
            | (go_simp; go_at_call 99; go_loud (refine HC.out.mono ?_; rintro e w4 (⟨g, rfl, hk4, hp2⟩ | ⟨ps, at4, ⟨pv, rfl, hpv⟩, hk4, hr4, hp2⟩); (exact ⟨rfl, HB.out g w4 hp2.out hk4⟩); obtain ⟨va, vc, rfl⟩ : ∃ a c, pv = .slice a ps.length c := (by obtain ⟨tvs, h1, ⟨a, cap, h2, _⟩, _⟩ := hpv; exact ⟨a, cap, by simpa [h1] using h2⟩); have how4 := (HL.out.own.kept (w' := w4) parts_lasts (by omega) (((Kept.refl (· = b) _).drew).trans hk4)).own; have hz4 : wr.heap.size ≤ w4.heap.size := hk4.size; have x4 : w4.cell? ⟨nb, 1, none⟩ = some (.slice lo ss.length lc) := hk4.cell (a := wr.drew) hbn' x2; have y4 : w4.frozen? ⟨nb, 1, none⟩ = false := hk4.frozen (a := wr.drew) hbn' hnlt y2; have x4a : ∀ o, (w4.alloc o).cell? ⟨nb, 1, none⟩ = some (.slice lo ss.length lc) := fun o => cell_alloc x4 o; have y4a : ∀ o, (w4.alloc o).frozen? ⟨nb, 1, none⟩ = false := fun o => frozen_alloc' (by show nb < _; omega) y4 o))
            | (refine step_append_lies _ (by rfl) _ _ _ (by rfl) (nb + 1) 169 i0 _ 1 24 Tryz.underlying44 hi0 hz0 hz1 hz2 rfl (by omega) (.slice lo ss.length lc) ss.length _ (by rfl) (how4.alloc _) ⟨w4.heap.size, 0, none⟩ 1 1 [.slice va ps.length vc] (by rfl) (by rfl) (World.news_of_block (cs := #[.slice va ps.length vc]) (t := 169) (fr := (0, 0)) (heap_alloc_new w4 _)) (by simp [Value.oneCell']) (by omega) h63 (by omega) (by simp; omega) (w4.heap.size + 1) (by simp) ?_; intro gg cap w5 hown5 hgrow hat hlt5; have x5 : w5.cell? ⟨nb, 1, none⟩ = some (.slice lo ss.length lc) := (hgrow.cell_far _ (by simp; omega) HNO.out).trans (x4a _); have y5 : w5.frozen? ⟨nb, 1, none⟩ = false := (hgrow.frozen_far _ (by simp; omega) HNO.out).trans (y4a _)))
        case rest =>
          obtain ⟨ps, sv2, vs2, at4, hMd⟩ := hcut
          have HMd := Lib.hid hMd
          have hl4 := hMd.rd.2.1
          have hlt4 : at' < at4 := sel_loc.2 _ _ _ _ _ hMd.ok
          have hpok := Lib.hid hMd.ok
          clear hMd
          cases p44 : ([44] : B).isPrefixOf (s.drop at4) with
          | false =>
            have hR : Hid (R = .ok (ss ++ [ps], s.drop at4, at4)) := Lib.hid (by rw [← HST1.out, hpok.out, Ans.ok_then]; simp only; rw [p44, if_neg (by simp)])
            go_wp2_with fail
            refine (seat_is false [44] _ _ _ _ HMd.out.rd p44).mono ?_
            rintro e w6 ⟨rfl, hk6, h6⟩
            have h6' : SdAt w6 b s at4 := h6
            have hd : SDone w w6 b s nb md at_ R sv2 (ss ++ [ps]) vs2 at4 :=
              ⟨h6', hk6.heap (by omega) HMd.out.node, HMd.out.own.kept parts_lasts (by omega) hk6, hk6.heap (by omega) HMd.out.res, HMd.out.kept.trans hk6, hR.out⟩
            have HDN := Lib.hid hd
            clear hk6 h6 h6' hd p44
            go_wp2_with fail
            go_meet
            case rel => exact ⟨_, _, _, at4, HDN.out⟩
          | true =>
            have HST2 : Hid (((sGap (s.drop (at4 + 1)) (at4 + 1)).then fun y => sSelsL f (ss ++ [ps]) y.1 y.2) = R) := Lib.hid (by rw [← HST1.out, hpok.out, Ans.ok_then]; simp only; rw [p44, if_pos rfl, List.drop_drop])
            go_wp2_with fail
            refine (seat_is true [44] _ _ _ _ HMd.out.rd p44).mono ?_
            rintro e w6 ⟨rfl, hk6, h6⟩
            have h6' : SdAt w6 b s (at4 + 1) := h6
            have H6 := Lib.hid h6'
            have HK6 := Lib.hid hk6
            have HM6 := Lib.hid ((HMd.out.kept.trans hk6).cell (by show ¬ (0 = b); omega) HM.out)
            clear hk6 h6 h6' p44
            go_wp2_with fail
            refine (sblank_sum _ _ _ _ m H6.out HM6.out hb0).mono ?_
            rintro e w7 (⟨g, rfl, hk, hp⟩ | ⟨at7, rfl, hk, h7, hp⟩)
            · have hR : Hid (r = .bad g) := Lib.hid (by
                have h1 := HST2.out
                rw [hp.out] at h1
                rw [← HR.out]; unfold sRule; rw [HRR.out, ← h1]; rfl)
              have KB := Lib.hid ((HMd.out.kept.trans HK6.out).trans hk)
              clear hk
              go_wp2_with fail
              exact ⟨rfl, .bad KB.out hR.out⟩
            · have hl7 := h7.2.1
              have hle7 : at4 + 1 ≤ at7 := by obtain ⟨_, _, h1, h2, _⟩ := gap_loc hp.out; omega
              have hkk := HK6.out.trans hk
              have hd : SLoop w w7 b s nb md at_ R sv2 (ss ++ [ps]) vs2 at7 :=
                ⟨h7, hkk.heap (by omega) HMd.out.node, HMd.out.own.kept parts_lasts (by omega) hkk, hkk.heap (by omega) HMd.out.res, by simpa using hfew8, HMd.out.kept.trans hkk, f, by have := HF.out; rw [List.length_drop] at this ⊢; omega, by
                  have h1 := HST2.out
                  rw [hp.out, Ans.ok_then] at h1
                  exact h1⟩
              have HDN := Lib.hid hd
              clear hk h7 hkk hd
              go_wp2_with fail
              go_roundg (s.length - at7)
              case measure => omega
              case rel => exact ⟨_, _, _, at7, HDN.out, rfl⟩
        all_goals
          go_wp2_with fail
          go_meet
          case rel => exact ⟨ps, _, _, at4, sel_round HL.out hbnb hblt hnb2 hk4 hr4 hp2.out hpv hown5 hgrow hat⟩
  case rest =>
    obtain ⟨sv, ss, vs, at', hD⟩ := hcut
    obtain ⟨lo, lc, rfl⟩ := hD.own.form
    have HD := Lib.hid hD
    have HE : Hid (((pMust [123] (s.drop at') at').then fun x => (sDecls x.1 x.2).then fun y => (pMust [125] y.2.1 y.2.2).then fun z => Ans.ok ((⟨md, ss, y.1, (at_ : Int), (z.2 : Int)⟩ : PRule), z.1, z.2)) = r) := Lib.hid (by
      rw [← HR.out]; unfold sRule; rw [HRR.out, hD.ok]; rfl)
    clear hD
    go_wp2_with fail
    refine (smust_sum [123] _ _ _ _ HD.out.rd).mono ?_
    rintro e w1 (⟨g, rfl, hk, hp⟩ | ⟨at1, rfl, hk, h1, hp⟩)
    · have hR : Hid (r = .bad g) := Lib.hid (by rw [← HE.out, hp.out]; rfl)
      have KB := Lib.hid (HD.out.kept.trans hk)
      clear hk
      go_wp2_with fail
      exact ⟨rfl, .bad KB.out hR.out⟩
    · have HE1 : Hid (((sDecls (s.drop at1) at1).then fun y => (pMust [125] y.2.1 y.2.2).then fun z => Ans.ok ((⟨md, ss, y.1, (at_ : Int), (z.2 : Int)⟩ : PRule), z.1, z.2)) = r) := Lib.hid (by rw [← HE.out, hp.out]; rfl)
      have J1 := Lib.hid hk
      have K1 := Lib.hid (HD.out.kept.trans hk)
      have H1 := Lib.hid h1
      have HM1 := Lib.hid (K1.out.cell (by show ¬ (0 = b); omega) HM.out)
      clear hk h1
      go_wp2_with fail
      refine (sdecls_sum _ _ _ _ m H1.out HM1.out hb0).mono ?_
      rintro e w2 (⟨g, rfl, hk, hp⟩ | ⟨ds, at2, ⟨dv, rfl, hdv⟩, hk, h2, hp⟩)
      · have hR : Hid (r = .bad g) := Lib.hid (by rw [← HE1.out, hp.out]; rfl)
        have KB := Lib.hid (K1.out.trans hk)
        clear hk
        go_wp2_with fail
        exact ⟨rfl, .bad KB.out hR.out⟩
      · obtain ⟨da, dc, rfl⟩ : ∃ a c, dv = .slice a ds.length c := by
          obtain ⟨a, cap, h, _⟩ := hdv.1; exact ⟨a, cap, by simpa using h⟩
        have HE2 : Hid (((pMust [125] (s.drop at2) at2).then fun z => Ans.ok ((⟨md, ss, ds, (at_ : Int), (z.2 : Int)⟩ : PRule), z.1, z.2)) = r) := Lib.hid (by rw [← HE1.out, hp.out]; rfl)
        have hbn' : ¬ nb = b := by omega
        have hbn : b ≠ nb := by omega
        have J2 := Lib.hid (J1.out.trans hk)
        have K2 := Lib.hid (K1.out.trans hk)
        have H2 := Lib.hid h2
        have hn2 := (J1.out.trans hk).heap hbn' HD.out.node
        have N2 := Lib.hid hn2
        have n2 := cellIn hn2 2 rfl
        have nf2 := freeIn hn2 2
        have V2 := Lib.hid hdv
        have hnlt1 : nb < w1.heap.size := ltIn (J1.out.heap hbn' HD.out.node)
        have HWS : Hid (w.heap.size ≤ w1.heap.size) := Lib.hid K1.out.size
        clear hk h2 hn2 hdv
        go_upto_region 9 with fail
        have H3 := Lib.hid (H2.out.other (p := ⟨nb, 2, none⟩) (x := .slice da ds.length dc) hbn)
        have K3 := Lib.hid (K2.out.setCell (p := ⟨nb, 2, none⟩) (.inr (by show w.heap.size ≤ nb; omega)) (.slice da ds.length dc))
        have KN := Lib.hid ((Kept.refl (· = nb) w2).setCell (p := ⟨nb, 2, none⟩) (.inl rfl) (.slice da ds.length dc))
        have hn3 : (w2.setCell ⟨nb, 2, none⟩ (.slice da ds.length dc)).heap[nb]? = some (.cells #[.string (str md), .slice lo ss.length lc, .slice da ds.length dc, .int .i64 (at_ : Int), .int .i64 0] 49 (0, 0)) := by
          have := setIn N2.out 2 (.slice da ds.length dc)
          simpa using this
        have N3 := Lib.hid hn3
        clear n2 nf2 hn3
        generalize (w2.setCell ⟨nb, 2, none⟩ (.slice da ds.length dc)) = w3 at *
        go_wp2_with fail
        refine (smust_sum [125] _ _ _ _ H3.out).mono ?_
        rintro e w4 (⟨g, rfl, hk, hp⟩ | ⟨at4, rfl, hk, h4, hp⟩)
        · have hR : Hid (r = .bad g) := Lib.hid (by rw [← HE2.out, hp.out]; rfl)
          have KB := Lib.hid (K3.out.trans hk)
          clear hk
          go_wp2_with fail
          exact ⟨rfl, .bad KB.out hR.out⟩
        · have hR : Hid (r = .ok (⟨md, ss, ds, (at_ : Int), (at4 : Int)⟩, s.drop at4, at4)) := Lib.hid (by rw [← HE2.out, hp.out]; rfl)
          have c1 := h4.c1
          have K4 := Lib.hid (K3.out.trans hk)
          have H4 := Lib.hid h4
          have hn4 := hk.heap hbn' N3.out
          have N4 := Lib.hid hn4
          have HK4 := Lib.hid hk
          have hres : w4.heap[w.heap.size]? = some (.cells #[.string ⟨#[]⟩, .slice none 0 0, .slice none 0 0, .int .i64 0, .int .i64 0] 49 (0, 0)) :=
            hk.heap (by omega) (KN.out.heap (by omega) (J2.out.heap (by omega) HD.out.res))
          have m0 := cellIn hn4 0 rfl
          have m1 := cellIn hn4 1 rfl
          have m2 := cellIn hn4 2 rfl
          have m3 := cellIn hn4 3 rfl
          have m4 := cellIn hn4 4 rfl
          have mf4 := freeIn hn4 4
          have q0 := cellIn hres 0 rfl
          have q1 := cellIn hres 1 rfl
          have q2 := cellIn hres 2 rfl
          have q3 := cellIn hres 3 rfl
          have q4 := cellIn hres 4 rfl
          have qf0 := freeIn hres 0
          have qf1 := freeIn hres 1
          have qf2 := freeIn hres 2
          have qf3 := freeIn hres 3
          have qf4 := freeIn hres 4
          have hnr : ¬ nb = w.heap.size := by omega
          have hnr' : ¬ w.heap.size = nb := by omega
          clear hk h4 hn4 hres
          have hbr : b ≠ w.heap.size := by omega
          have hfin : ∀ wf, wf = ((((((w4.setCell ⟨nb, 4, none⟩ (.int .i64 (at4 : Int))).setCell ⟨w.heap.size, 0, none⟩ (.string (str md))).setCell ⟨w.heap.size, 1, none⟩ (.slice lo ss.length lc)).setCell ⟨w.heap.size, 2, none⟩ (.slice da ds.length dc)).setCell
              ⟨w.heap.size, 3, none⟩ (.int .i64 (at_ : Int))).setCell ⟨w.heap.size, 4, none⟩ (.int .i64 (at4 : Int))) →
              SSum r w b s (RuleRet w) (.returned (.agg #[.string (str md), .slice lo ss.length lc, .slice da ds.length dc, .int .i64 (at_ : Int), .int .i64 (at4 : Int)])) wf := by
            rintro wf rfl
            have kf : Kept (fun k => k = nb ∨ k = w.heap.size) w4 ((((((w4.setCell ⟨nb, 4, none⟩ (.int .i64 (at4 : Int))).setCell ⟨w.heap.size, 0, none⟩ (.string (str md))).setCell ⟨w.heap.size, 1, none⟩ (.slice lo ss.length lc)).setCell ⟨w.heap.size, 2, none⟩ (.slice da ds.length dc)).setCell
              ⟨w.heap.size, 3, none⟩ (.int .i64 (at_ : Int))).setCell ⟨w.heap.size, 4, none⟩ (.int .i64 (at4 : Int))) :=
              ((((((Kept.refl _ w4).setCell (p := ⟨nb, 4, none⟩) (.inl (.inl rfl)) _).setCell (p := ⟨w.heap.size, 0, none⟩) (.inl (.inr rfl)) _).setCell (p := ⟨w.heap.size, 1, none⟩) (.inl (.inr rfl)) _).setCell (p := ⟨w.heap.size, 2, none⟩) (.inl (.inr rfl)) _).setCell
                (p := ⟨w.heap.size, 3, none⟩) (.inl (.inr rfl)) _).setCell (p := ⟨w.heap.size, 4, none⟩) (.inl (.inr rfl)) _
            have k24 : Kept (fun k => k = b ∨ k = nb ∨ k = w.heap.size) w2 w4 := (KN.out.mono (fun k _ h => .inr (.inl h))).trans (HK4.out.mono (fun k _ h => .inl h))
            have k2f := k24.trans (kf.mono (fun k _ h => .inr h))
            have kcf := (J2.out.mono (T := fun k => k = b ∨ k = nb ∨ k = w.heap.size) (fun k _ h => .inl h)).trans k2f
            have hws := HWS.out
            refine .inr ⟨_, at4, ⟨_, _, rfl, ?_, ?_⟩, K4.out.trans' kf (fun k hk hs => by rcases hs with hs | hs <;> omega), H4.out.kept kf (by rintro (h | h) <;> omega), hR⟩
            · exact sels_lasts _ _ _ _ _ _ _ (HD.out.own.done selCells_len parts_lasts) kcf (fun k _ hs => by show k < nb + 1; rcases hs with hs | hs | hs <;> omega) (fun k _ hx => by have hx' : k < w.heap.size := hx; show k < nb + 1; omega)
            · exact decls_lasts _ _ _ _ _ _ _ V2.out k2f (fun k _ hs => by show k < w1.heap.size; rcases hs with hs | hs | hs <;> omega) (fun k _ hx => by have hx' : k < w.heap.size := hx; show k < w1.heap.size; omega)
          have HFIN := Lib.hid hfin
          clear hfin
          go_wp2_with fail
          refine bodyPost_ret (v := .agg #[.string (str md), .slice lo ss.length lc, .slice da ds.length dc, .int .i64 (at_ : Int), .int .i64 (at4 : Int)]) (by simp [results, Tryz.results73, go_sem, q0, q1, q2, q3, q4, m0, m1, m2, m3, m4]) rfl ?_
          exact HFIN.out _ rfl
end Go.Proofs.YtplbdlgmjehckadGreatDoor

namespace Go.Proofs.YtplbdlgmjehckadGreatDoor
open Go.RowKit
set_option linter.unusedVariables false
set_option linter.unusedSimpArgs false
abbrev RulesOwn := NestOwn ruleCells 5 49 RuleIn
def RS (b : Nat) (v : Value) : Nat → Prop := fun k => k = b ∨ v.ownBlock = some k
def RulesEnd (w : World) (base b : Nat) (s : B) (lv : Value) (X : Ans (List PRule × B × Nat)) (e : Ending) (w' : World) : Prop :=
  (∃ f, e = sthrown f ∧ Kept (RS b lv) w w' ∧ Hid (X = .bad f)) ∨
  (∃ v' rs' vs' at', e = .returned v' ∧ RulesOwn w' base v' rs' vs' ∧ (∀ k, v'.ownBlock = some k → lv.ownBlock = some k ∨ w.heap.size ≤ k) ∧ Kept (RS b lv) w w' ∧ SdAt w' b s at' ∧ rs'.length ≤ 60 ∧ Hid (X = .ok (rs', s.drop at', at')))
theorem sRulesL_step {f : Nat} {md : B} {rs : List PRule} {l : B} {a : Nat} {r : Ans (List PRule × B × Nat)} (h : sRulesL (f + 1) md rs l a = r) :
    (if (l.isEmpty || ([125] : B).isPrefixOf l) = true then .ok (rs, l, a)
    else if (md.isEmpty && mediaWord.isPrefixOf l) = true then
      (sMediaHead (l.drop 6) (a + 6)).then fun h => (rulesFrom f h.1 rs h.2.1 h.2.2).then fun x => (pMust [125] x.2.1 x.2.2).then fun y => rulesFrom f md x.1 y.1 y.2
    else if rs.length = 60 then .bad ⟨5, a⟩ else (sRule md l a).then fun x => rulesFrom f md (rs ++ [x.1]) x.2.1 x.2.2) = r := by
  rw [← h, sRulesL]
  split
  · rfl
  · split
    · cases sMediaHead (l.drop 6) (a + 6) with
      | bad f => rfl
      | ok x =>
        simp only [Ans.ok_then]
        unfold rulesFrom
        cases sGap x.2.1 x.2.2 with
        | bad f => rfl
        | ok y =>
          simp only [Ans.ok_then]
    · rfl
structure RLp (w wr : World) (base b : Nat) (s : B) (lv : Value) (md : B) (r : Ans (List PRule × B × Nat)) (v : Value) (rs : List PRule) (vs : List Value) (at' : Nat) : Prop where
  rd : SdAt wr b s at'
  own : RulesOwn wr base v rs vs
  few : rs.length ≤ 60
  kept : Kept (RS b lv) w wr
  whence : ∀ k, v.ownBlock = some k → lv.ownBlock = some k ∨ w.heap.size ≤ k
  rest : ∃ f, (s.drop at').length < f ∧ sRulesL f md rs (s.drop at') at' = r
structure RDn (w wr : World) (base b : Nat) (s : B) (lv : Value) (r : Ans (List PRule × B × Nat)) (v : Value) (rs : List PRule) (vs : List Value) (at' : Nat) : Prop where
  rd : SdAt wr b s at'
  own : RulesOwn wr base v rs vs
  few : rs.length ≤ 60
  kept : Kept (RS b lv) w wr
  whence : ∀ k, v.ownBlock = some k → lv.ownBlock = some k ∨ w.heap.size ≤ k
  ok : r = .ok (rs, s.drop at', at')
theorem kept_rs {w w' : World} {b : Nat} {v : Value} (h : Kept (· = b) w w') : Kept (RS b v) w w' := h.mono (fun k _ hk => .inl hk)
theorem rule_round {w wr w5 w6 : World} {base b gg cap at5 : Nat} {s md : B} {lv v sv dv : Value} {r : Ans (List PRule × B × Nat)} {rs : List PRule} {vs : List Value} {at' : Nat} {u : PRule} {o : Obj}
    (hL : RLp w wr base b s lv md r v rs vs at') (hb : b < base) (hbs : base ≤ wr.heap.size) (hk5 : Kept (· = b) wr w5) (hr5 : SdAt w5 b s at5)
    (hs : SelsIn w5 (fun k => k < wr.heap.size) sv u.sels) (hd : DeclsIn w5 (fun k => k < wr.heap.size) dv u.decls)
    (hown : w6.ownsRow base 49 5 (.slice (some ⟨gg, 0, none⟩) (rs.length + 1) cap) (rs.length + 1) ((List.zipWith ruleCells rs vs).flatten ++ ruleCells u (.tuple #[sv, dv])))
    (hgrow : (w5.alloc o).grownBy w6 v.ownBlock) (hat : v.ownBlock = some gg ∨ gg = w5.heap.size + 1) :
    SdAt w6 b s at5 ∧ RulesOwn w6 base (.slice (some ⟨gg, 0, none⟩) (rs.length + 1) cap) (rs ++ [u]) (vs ++ [.tuple #[sv, dv]]) ∧ Kept (RS b lv) w w6 ∧
      ∀ k, (Value.slice (some ⟨gg, 0, none⟩) (rs.length + 1) cap).ownBlock = some k → lv.ownBlock = some k ∨ w.heap.size ≤ k := by
  have hlt := hL.own.own.lt
  have hk6 : Kept (fun k => v.ownBlock = some k) w5 w6 := ((Kept.refl _ w5).alloc o).grown hgrow (fun k hk => .inl hk)
  have o5 : RulesOwn w5 base v rs vs := hL.own.kept rule_lasts hb hk5
  have hsz := hk5.size
  have hsw := hL.kept.size
  refine ⟨hr5.kept hk6 (fun h => by have := (hlt b h).1; omega), ?_, ?_, ?_⟩
  · refine o5.push rule_lasts ?_ hown hgrow (by rcases hat with h | h; exact .inl h; exact .inr (by omega))
    have hX : ∀ k, k < w5.heap.size → (k < base ∨ v.ownBlock = some k) → k < wr.heap.size := fun k _ hx => by
      rcases hx with hx | hx
      · omega
      · exact (hlt k hx).2
    exact ⟨sv, dv, rfl, sels_lasts _ _ _ _ (fun _ => False) _ _ hs (Kept.refl _ _) (fun k _ hs => hs.elim) hX, decls_lasts _ _ _ _ (fun _ => False) _ _ hd (Kept.refl _ _) (fun k _ hs => hs.elim) hX⟩
  · refine ((hL.kept.trans (kept_rs hk5)).alloc o).grown hgrow (fun k hk => ?_)
    rcases hL.whence k hk with h | h
    · exact .inl (.inr h)
    · exact .inr h
  · intro k hk
    simp only [Value.ownBlock, Option.some.injEq] at hk
    subst hk
    rcases hat with h | h
    · exact hL.whence _ h
    · exact .inr (by omega)
set_option maxRecDepth 100000 in
set_option maxHeartbeats 6400000 in
theorem srules_gen (md s : B) (b base : Nat) (m : Int) (hb0 : 0 < b) (hbb : b < base)
    (IH : md = [] → ∀ (nm : B) (g : Nat) (rs : List PRule) (vs : List Value) (lv : Value) (at_ : Nat) (w : World), nm ≠ [] → SdAt w b s at_ → w.cell? ⟨0, 0, none⟩ = some (.int .i64 m) → base ≤ w.heap.size → RulesOwn w base lv rs vs → rs.length ≤ 60 → (s.drop at_).length < g →
      Calls Tryz.prog 41 #[.pointer (some ⟨b, 0, none⟩), lv, .string (str nm)] w (RulesEnd w base b s lv (rulesFrom g nm rs (s.drop at_) at_)))
    (g : Nat) (rs0 : List PRule) (vs0 : List Value) (lv : Value) (at_ : Nat) (w : World) (h : SdAt w b s at_) (hm : w.cell? ⟨0, 0, none⟩ = some (.int .i64 m)) (hbs : base ≤ w.heap.size) (how : RulesOwn w base lv rs0 vs0) (hfew : rs0.length ≤ 60) (hg : (s.drop at_).length < g) :
    Calls Tryz.prog 41 #[.pointer (some ⟨b, 0, none⟩), lv, .string (str md)] w (RulesEnd w base b s lv (rulesFrom g md rs0 (s.drop at_) at_)) := by
  obtain ⟨r, HR⟩ : ∃ r, Hid (rulesFrom g md rs0 (s.drop at_) at_ = r) := ⟨_, rfl⟩
  rw [HR.out]
  have HI := Lib.hid IH
  have HM := Lib.hid hm
  have HO := Lib.hid how
  obtain ⟨i0, hi0, hz0, hz1, hz2⟩ := info_parts info_rule
  have H := Lib.hid h
  have hl := h.2.1
  have hmx := h.2.2
  have hblt := h.lt
  have HG := Lib.hid hg
  clear h hm IH how hg
  have hmd0 : md.isEmpty = true ∨ md.isEmpty = false := by cases md.isEmpty <;> simp
  go_enter Tryz.func41, Tryz.ntmps41
  go_wp2_with fail
  refine (sblank_sum _ _ _ _ m H.out HM.out hb0).mono ?_
  rintro e w1 (⟨f, rfl, hk1, hp1⟩ | ⟨at1, rfl, hk1, h1, hp1⟩)
  · have hR : Hid (r = .bad f) := Lib.hid (by rw [← HR.out]; unfold rulesFrom; rw [hp1.out]; rfl)
    have K1 := Lib.hid hk1
    clear hk1
    go_wp2_with fail
    exact ⟨rfl, .inl ⟨_, rfl, kept_rs K1.out, hR⟩⟩
  · have hle1 : at_ ≤ at1 := by obtain ⟨_, _, h1, h2, _⟩ := gap_loc hp1.out; omega
    have HP0 : Hid (RLp w w1 base b s lv md r lv rs0 vs0 at1) := Lib.hid ⟨h1, HO.out.kept rule_lasts hbb hk1, hfew, kept_rs hk1, fun k hk => .inl hk, g, Nat.lt_of_le_of_lt (drop_in hle1) HG.out, by rw [← HR.out]; unfold rulesFrom; rw [hp1.out]; rfl⟩
    have hl1 := h1.2.1
    clear hk1 h1 hp1 HR
    go_upto_block 0 with fail
    go_cut [1] (fun l wx => ∃ rs vs at', RDn w wx base b s lv r l rs vs at')
    case first =>
      go_wp2_with fail
      go_loopg [1] (s.length - at1) (fun k l wr => ∃ rs vs at', RLp w wr base b s lv md r l rs vs at' ∧ k = s.length - at')
      case atStart => exact ⟨rs0, vs0, at1, HP0.out, rfl⟩
      case round =>
        obtain ⟨rs, vs, at', hL, hk⟩ := hrel
        have HL := Lib.hid hL
        have hfew1 := hL.few
        have hl' := hL.rd.2.1
        have c0 := hL.rd.c0
        have c1 := hL.rd.c1
        obtain ⟨lo, lc, rfl⟩ := hL.own.form
        obtain ⟨f0, hf0, hr0⟩ := hL.rest
        cases f0 with
        | zero => omega
        | succ f =>
        have HF := Lib.hid hf0
        have HST := Lib.hid (sRulesL_step hr0)
        clear hL hr0 hf0
        by_cases hlt : at' < s.length
        · have HD := Lib.hid (List.drop_eq_getElem_cons hlt)
          have e0 : decide ((at' : Int) < (s.length : Int)) = true := by simp; omega
          cases e1 : (((s[at']'hlt).toNat : Int) != 125) with
          | false =>
            have hR : Hid (r = .ok (rs, s.drop at', at')) := Lib.hid (by
              rw [← HST.out, if_pos]
              have : s[at']'hlt = 125 := UInt8.toNat_inj.1 (by simp at e1; have : (125 : UInt8).toNat = 125 := rfl; omega)
              rw [HD.out, this]; rfl)
            go_wp2_with fail
            go_quiet (fail)
            go_wp2_with fail
            go_meet
            case rel => exact ⟨rs, vs, at', HL.out.rd.drewN _, HL.out.own.kept rule_lasts hbb ((Kept.refl _ _).drewN _), HL.out.few, HL.out.kept.drewN _, HL.out.whence, hR.out⟩
          | true =>
            have hne : ¬ s[at']'hlt = 125 := fun h => by rw [h] at e1; cases e1
            have hst := HST.out
            rw [if_neg (brace_no HD.out hne)] at hst
            have HST1 := Lib.hid hst
            clear hst hne
            go_wp2_with fail
            go_quiet (fail)
            obtain ⟨w2, HW2⟩ : ∃ w2, Hid (wr.drewN nq = w2) := ⟨_, rfl⟩
            have hq1 : Qt wr w2 := ⟨nq, HW2.out.symm⟩
            have HL2 : Hid (RLp w w2 base b s lv md r (.slice lo rs.length lc) rs vs at') := Lib.hid ⟨HL.out.rd.quiet hq1, HL.out.own.kept rule_lasts hbb (hq1.kept _), HL.out.few, HL.out.kept.trans (hq1.kept _), HL.out.whence, HL.out.rest⟩
            clear hq1 c0 c1
            go_upto_region 3 with fail
            rw [HW2.out]
            obtain ⟨q, HQ⟩ : ∃ q, Hid ((md.isEmpty && mediaWord.isPrefixOf (s.drop at')) = q) := ⟨_, rfl⟩
            go_cut [37] (fun x wx => x = .bool q ∧ SdAt wx b s (at' + if q then 6 else 0) ∧ Kept (· = b) w2 wx)
            case first =>
              rcases hmd0 with hmd | hmd
              · obtain ⟨q2, HQ2⟩ : ∃ q2, Hid (mediaWord.isPrefixOf (s.drop at') = q2) := ⟨_, rfl⟩
                obtain rfl : q = q2 := by rw [← HQ.out, hmd, HQ2.out]; rfl
                go_wp2_with fail
                refine (seat_is q mediaWord _ _ _ _ HL2.out.rd HQ2.out).mono ?_
                rintro e w3 ⟨rfl, hk3, h3⟩
                have H3 : Hid (SdAt w3 b s (at' + if q then 6 else 0)) := Lib.hid h3
                have K3 := Lib.hid hk3
                clear hk3 h3
                go_wp2_with fail
                go_meet
                case rel => exact ⟨rfl, H3.out, K3.out⟩
              · obtain rfl : q = false := by rw [← HQ.out, hmd]; rfl
                go_wp2_with fail
                go_meet
                case rel => exact ⟨rfl, HL2.out.rd, Kept.refl _ _⟩
            case rest =>
              obtain ⟨rfl, h3, hk3⟩ := hcut
              have K3 := Lib.hid hk3
              have H3 := Lib.hid h3
              have KW3 := Lib.hid (HL2.out.kept.trans (kept_rs hk3))
              have O3 := Lib.hid (HL2.out.own.kept rule_lasts hbb hk3)
              clear h3 hk3
              cases q with
              | true =>
                obtain ⟨hmd, hmw⟩ : md.isEmpty = true ∧ mediaWord.isPrefixOf (s.drop at') = true := by have := HQ.out; simpa using this
                have hmdn : md = [] := by simpa using hmd
                have HMDN := Lib.hid hmdn
                have HE : Hid (((sMediaHead (s.drop (at' + 6)) (at' + 6)).then fun h => (rulesFrom f h.1 rs h.2.1 h.2.2).then fun x => (pMust [125] x.2.1 x.2.2).then fun y => rulesFrom f md x.1 y.1 y.2) = r) := Lib.hid (by
                  rw [← HST1.out, HQ.out, if_pos rfl, List.drop_drop])
                have H3' : Hid (SdAt wc b s (at' + 6)) := Lib.hid H3.out
                have HM3 : Hid (wc.cell? ⟨0, 0, none⟩ = some (.int .i64 m)) := Lib.hid (KW3.out.cell (fun hs => by
                  rcases hs with hs | hs
                  · have : (0 : Nat) = b := hs; omega
                  · have := (HO.out.own.lt 0 hs).1; omega) HM.out)
                clear hmdn hmw
                go_wp2_with fail
                refine (sblank_sum _ _ _ _ m H3'.out HM3.out hb0).mono ?_
                rintro e w4 (⟨g, rfl, hk, hp4⟩ | ⟨at4, rfl, hk, h4, hp4⟩)
                · have hR : Hid (r = .bad g) := Lib.hid (by rw [← HE.out]; unfold sMediaHead; rw [hp4.out]; rfl)
                  have KB := Lib.hid (KW3.out.trans (kept_rs hk))
                  clear hk
                  go_wp2_with fail
                  exact ⟨rfl, .inl ⟨_, rfl, KB.out, hR⟩⟩
                · have J4 := Lib.hid hk
                  have H4 := Lib.hid h4
                  have hl4 := h4.2.1
                  have hle4 : at' + 6 ≤ at4 := by obtain ⟨_, _, h1, h2, _⟩ := gap_loc hp4.out; omega
                  clear hk h4
                  by_cases hgap : at4 = at' + 6
                  · have eg : decide (at' + 6 < at4) = false := by simp; omega
                    have hR : Hid (r = .bad ⟨2, at4⟩) := Lib.hid (by rw [← HE.out]; unfold sMediaHead; rw [hp4.out, Ans.ok_then]; simp only; rw [if_pos hgap]; rfl)
                    rw [eg]
                    clear hgap
                    go_wp2_with fail
                    refine (sfail_any 2 _ _ _ _ H4.out).mono ?_
                    rintro e w9 ⟨rfl, hq9⟩
                    go_wp2_with fail
                    exact ⟨rfl, .inl ⟨_, rfl, KW3.out.trans (kept_rs (J4.out.trans (hq9.kept _))), hR⟩⟩
                  · have eg : decide (at' + 6 < at4) = true := by simp; omega
                    have HE4 : Hid (((sName (s.drop at4) at4).then fun x => (sGap x.2.1 x.2.2).then fun y => (pMust [123] y.1 y.2).then fun z => (rulesFrom f x.1 rs z.1 z.2).then fun u => (pMust [125] u.2.1 u.2.2).then fun v => rulesFrom f md u.1 v.1 v.2) = r) := Lib.hid (by
                      rw [← HE.out]; unfold sMediaHead; rw [hp4.out, Ans.ok_then]; simp only; rw [if_neg hgap]
                      cases sName (s.drop at4) at4 with
                      | bad f => rfl
                      | ok x =>
                        simp only [Ans.ok_then]
                        cases sGap x.2.1 x.2.2 with
                        | bad f => rfl
                        | ok y =>
                          simp only [Ans.ok_then]
                          cases pMust [123] y.1 y.2 <;> rfl)
                    rw [eg]
                    clear hgap
                    go_wp2_with fail
                    refine (sname_sum _ _ _ _ H4.out).mono ?_
                    rintro e w5 (⟨g, rfl, hk, hp5⟩ | ⟨nm, at5, rfl, hk, h5, hp5⟩)
                    · have hR : Hid (r = .bad g) := Lib.hid (by rw [← HE4.out, hp5.out]; rfl)
                      have KB := Lib.hid (KW3.out.trans (kept_rs (J4.out.trans hk)))
                      clear hk
                      go_wp2_with fail
                      exact ⟨rfl, .inl ⟨_, rfl, KB.out, hR⟩⟩
                    · have HE5 : Hid (((sGap (s.drop at5) at5).then fun y => (pMust [123] y.1 y.2).then fun z => (rulesFrom f nm rs z.1 z.2).then fun u => (pMust [125] u.2.1 u.2.2).then fun v => rulesFrom f md u.1 v.1 v.2) = r) := Lib.hid (by rw [← HE4.out, hp5.out]; rfl)
                      have hnm : nm ≠ [] ∧ at4 < at5 := by
                        obtain ⟨h1, h2, h3, _⟩ := name_pos hp5.out
                        exact ⟨by rintro rfl; simp at h1, by omega⟩
                      have HNM := Lib.hid hnm.1
                      have hle5 := hnm.2
                      have J5 := Lib.hid (J4.out.trans hk)
                      have H5 := Lib.hid h5
                      have HM5 := Lib.hid ((J4.out.trans hk).cell (by show ¬ (0 = b); omega) HM3.out)
                      clear hk h5 hnm
                      go_wp2_with fail
                      refine (sblank_sum _ _ _ _ m H5.out HM5.out hb0).mono ?_
                      rintro e w6 (⟨g, rfl, hk, hp6⟩ | ⟨at6, rfl, hk, h6, hp6⟩)
                      · have hR : Hid (r = .bad g) := Lib.hid (by rw [← HE5.out, hp6.out]; rfl)
                        have KB := Lib.hid (KW3.out.trans (kept_rs (J5.out.trans hk)))
                        clear hk
                        go_wp2_with fail
                        exact ⟨rfl, .inl ⟨_, rfl, KB.out, hR⟩⟩
                      · have HE6 : Hid (((pMust [123] (s.drop at6) at6).then fun z => (rulesFrom f nm rs z.1 z.2).then fun u => (pMust [125] u.2.1 u.2.2).then fun v => rulesFrom f md u.1 v.1 v.2) = r) := Lib.hid (by rw [← HE5.out, hp6.out]; rfl)
                        have hle6 : at5 ≤ at6 := by obtain ⟨_, _, h1, h2, _⟩ := gap_loc hp6.out; omega
                        have J6 := Lib.hid (J5.out.trans hk)
                        have H6 := Lib.hid h6
                        clear hk h6
                        go_wp2_with fail
                        refine (smust_sum [123] _ _ _ _ H6.out).mono ?_
                        rintro e w7 (⟨g, rfl, hk, hp7⟩ | ⟨at7, rfl, hk, h7, hp7⟩)
                        · have hR : Hid (r = .bad g) := Lib.hid (by rw [← HE6.out, hp7.out]; rfl)
                          have KB := Lib.hid (KW3.out.trans (kept_rs (J6.out.trans hk)))
                          clear hk
                          go_wp2_with fail
                          exact ⟨rfl, .inl ⟨_, rfl, KB.out, hR⟩⟩
                        · have HE7 : Hid (((rulesFrom f nm rs (s.drop at7) at7).then fun u => (pMust [125] u.2.1 u.2.2).then fun v => rulesFrom f md u.1 v.1 v.2) = r) := Lib.hid (by rw [← HE6.out, hp7.out]; rfl)
                          have hle7 : at6 ≤ at7 := by have := (must_loc hp7.out).2.1; omega
                          have hl7 := h7.2.1
                          have J7 := Lib.hid (J6.out.trans hk)
                          have H7 := Lib.hid h7
                          have HM7 := Lib.hid ((J6.out.trans hk).cell (by show ¬ (0 = b); omega) HM3.out)
                          have hsz7 : base ≤ w7.heap.size := by have := (J6.out.trans hk).size; have := KW3.out.size; omega
                          have O7 := Lib.hid (O3.out.kept rule_lasts hbb (J6.out.trans hk))
                          have KW7 := Lib.hid (KW3.out.trans (kept_rs (J6.out.trans hk)))
                          have hg7 : (s.drop at7).length < f := by have := HF.out; rw [List.length_drop] at this ⊢; omega
                          have HC := Lib.hid (HI.out HMDN.out nm f rs vs (.slice lo rs.length lc) at7 w7 HNM.out H7.out HM7.out hsz7 O7.out hfew1 hg7)
                          clear hk h7 hg7
                          go_wp2_with fail
                          refine HC.out.mono ?_
                          rintro e w8 (⟨g, rfl, hk, hp8⟩ | ⟨v8, rs8, vs8, at8, rfl, ho8, hwh8, hk, h8, hfew8, hp8⟩)
                          · have hR : Hid (r = .bad g) := Lib.hid (by rw [← HE7.out, hp8.out]; rfl)
                            have KB : Hid (Kept (RS b lv) w w8) := Lib.hid (KW7.out.trans' hk (fun k hk hs => by
                              rcases hs with hs | hs
                              · exact .inl hs
                              · rcases HL.out.whence k hs with h | h
                                · exact .inr h
                                · omega))
                            clear hk
                            go_wp2_with fail
                            exact ⟨rfl, .inl ⟨_, rfl, KB.out, hR⟩⟩
                          · have HE8 : Hid (((pMust [125] (s.drop at8) at8).then fun v => rulesFrom f md rs8 v.1 v.2) = r) := Lib.hid (by rw [← HE7.out, hp8.out]; rfl)
                            have hle8 : at7 ≤ at8 := by
                              have h1 := hp8.out
                              unfold rulesFrom at h1
                              obtain ⟨⟨l2, a2⟩, g1, g2⟩ := then_ok h1
                              obtain ⟨_, _, _, h2, _⟩ := gap_loc g1
                              obtain ⟨_, _, _, h3, _⟩ := in_inv _ _ _ _ _ _ _ _ HNM.out hfew1 g2
                              omega
                            have KW8 : Hid (Kept (RS b lv) w w8) := Lib.hid (KW7.out.trans' hk (fun k hk hs => by
                              rcases hs with hs | hs
                              · exact .inl hs
                              · rcases HL.out.whence k hs with h | h
                                · exact .inr h
                                · omega))
                            have WH8 : Hid (∀ k, v8.ownBlock = some k → lv.ownBlock = some k ∨ w.heap.size ≤ k) := Lib.hid (fun k hk => by
                              rcases hwh8 k hk with h | h
                              · exact HL.out.whence k h
                              · have := KW7.out.size; exact .inr (by omega))
                            obtain ⟨lo8, lc8, rfl⟩ := ho8.form
                            have O8 := Lib.hid ho8
                            have H8 := Lib.hid h8
                            clear hk ho8 hwh8 h8
                            go_wp2_with fail
                            refine (smust_sum [125] _ _ _ _ H8.out).mono ?_
                            rintro e w9 (⟨g, rfl, hk, hp9⟩ | ⟨at9, rfl, hk, h9, hp9⟩)
                            · have hR : Hid (r = .bad g) := Lib.hid (by rw [← HE8.out, hp9.out]; rfl)
                              have KB := Lib.hid (KW8.out.trans (kept_rs hk))
                              clear hk
                              go_wp2_with fail
                              exact ⟨rfl, .inl ⟨_, rfl, KB.out, hR⟩⟩
                            · have HE9 : Hid (rulesFrom f md rs8 (s.drop at9) at9 = r) := Lib.hid (by rw [← HE8.out, hp9.out]; rfl)
                              have hle9 : at8 ≤ at9 := by have := (must_loc hp9.out).2.1; omega
                              have J9 := Lib.hid hk
                              have H9 := Lib.hid h9
                              have HM9 : Hid (w9.cell? ⟨0, 0, none⟩ = some (.int .i64 m)) := Lib.hid ((KW8.out.trans (kept_rs hk)).cell (fun hs => by
                                rcases hs with hs | hs
                                · have : (0 : Nat) = b := hs; omega
                                · have := (HO.out.own.lt 0 hs).1; omega) HM.out)
                              clear hk h9
                              go_wp2_with fail
                              refine (sblank_sum _ _ _ _ m H9.out HM9.out hb0).mono ?_
                              rintro e w10 (⟨g, rfl, hk, hp10⟩ | ⟨at10, rfl, hk, h10, hp10⟩)
                              · have hR : Hid (r = .bad g) := Lib.hid (by rw [← HE9.out]; unfold rulesFrom; rw [hp10.out]; rfl)
                                have KB := Lib.hid (KW8.out.trans (kept_rs (J9.out.trans hk)))
                                clear hk
                                go_wp2_with fail
                                exact ⟨rfl, .inl ⟨_, rfl, KB.out, hR⟩⟩
                              · have hle10 : at9 ≤ at10 := by obtain ⟨_, _, h1, h2, _⟩ := gap_loc hp10.out; omega
                                have hl10 := h10.2.1
                                have hd : RLp w w10 base b s lv md r (.slice lo8 rs8.length lc8) rs8 vs8 at10 :=
                                  ⟨h10, O8.out.kept rule_lasts hbb (J9.out.trans hk), hfew8, KW8.out.trans (kept_rs (J9.out.trans hk)), WH8.out, f, by have := HF.out; rw [List.length_drop] at this ⊢; omega, by
                                    have h1 := HE9.out
                                    unfold rulesFrom at h1
                                    rw [hp10.out] at h1
                                    exact h1⟩
                                have HDN := Lib.hid hd
                                clear hk h10 hd
                                go_wp2_with fail
                                go_roundg (s.length - at10)
                                case measure => omega
                                case rel => exact ⟨rs8, vs8, at10, HDN.out, rfl⟩
              | false =>
                have H3' : Hid (SdAt wc b s at') := Lib.hid H3.out
                have HST2 : Hid ((if rs.length = 60 then Ans.bad ⟨5, at'⟩ else (sRule md (s.drop at') at').then fun x => rulesFrom f md (rs ++ [x.1]) x.2.1 x.2.2) = r) := Lib.hid (by have h1 := HST1.out; rw [HQ.out, if_neg (by simp)] at h1; exact h1)
                by_cases h60 : rs.length = 60
                · have e60 : ((rs.length : Int) == 60) = true := by simp; omega
                  have hR : Hid (r = .bad ⟨5, at'⟩) := Lib.hid (by rw [← HST2.out, if_pos h60])
                  clear h60
                  go_wp2_with fail
                  refine (sfail_any 5 _ _ _ _ H3'.out).mono ?_
                  rintro e w9 ⟨rfl, hq9⟩
                  go_wp2_with fail
                  exact ⟨rfl, .inl ⟨_, rfl, KW3.out.trans (kept_rs (hq9.kept _)), hR⟩⟩
                · have e60 : ((rs.length : Int) == 60) = false := by simp; omega
                  have HST3 : Hid (((sRule md (s.drop at') at').then fun x => rulesFrom f md (rs ++ [x.1]) x.2.1 x.2.2) = r) := Lib.hid (by rw [← HST2.out, if_neg h60])
                  have hfew60 : rs.length + 1 ≤ 60 := by omega
                  have HM3 : Hid (wc.cell? ⟨0, 0, none⟩ = some (.int .i64 m)) := Lib.hid (KW3.out.cell (fun hs => by
                    rcases hs with hs | hs
                    · have : (0 : Nat) = b := hs; omega
                    · have := (HO.out.own.lt 0 hs).1; omega) HM.out)
                  have HL3 : Hid (RLp w wc base b s lv md r (.slice lo rs.length lc) rs vs at') := Lib.hid ⟨H3'.out, O3.out, HL.out.few, KW3.out, HL.out.whence, HL.out.rest⟩
                  have hbs3 : base ≤ wc.heap.size := by have := KW3.out.size; omega
                  clear h60
                  go_wp2_with fail
                  refine (srule_sum md _ _ _ _ m H3'.out HM3.out hb0).mono ?_
                  rintro e w5 (⟨g, rfl, hk, hp5⟩ | ⟨u, at5, ⟨sv, dv, rfl, hsv, hdv⟩, hk, h5, hp5⟩)
                  · have hR : Hid (r = .bad g) := Lib.hid (by rw [← HST3.out, hp5.out]; rfl)
                    have KB := Lib.hid (KW3.out.trans (kept_rs hk))
                    clear hk
                    go_wp2_with fail
                    exact ⟨rfl, .inl ⟨_, rfl, KB.out, hR⟩⟩
                  · have HE5 : Hid (rulesFrom f md (rs ++ [u]) (s.drop at5) at5 = r) := Lib.hid (by rw [← HST3.out, hp5.out]; rfl)
                    have hle5 : at' < at5 := by obtain ⟨t, h1, h2, _, _, _, h3, _⟩ := rule_loc hp5.out; omega
                    have how5 := (O3.out.kept rule_lasts hbb hk).own
                    have J5 := Lib.hid hk
                    have H5 := Lib.hid h5
                    have HSV := Lib.hid hsv
                    have HDV := Lib.hid hdv
                    obtain ⟨sa, sc, rfl⟩ : ∃ a c, sv = .slice a u.sels.length c := by
                      obtain ⟨tvs, h1, ⟨a, cap, h2, _⟩, _⟩ := hsv; exact ⟨a, cap, by simpa [h1] using h2⟩
                    obtain ⟨da, dc, rfl⟩ : ∃ a c, dv = .slice a u.decls.length c := by
                      obtain ⟨a, cap, h, _⟩ := hdv.1; exact ⟨a, cap, by simpa using h⟩
                    have hsz5 : base ≤ w5.heap.size := by have := hk.size; omega
                    clear hk h5 hsv hdv
                    go_wp2_with (at_builtin; refine wpList_append_lies _ rfl _ _ _ rfl base 49 i0 _ 5 80 Tryz.underlying30 hi0 hz0 hz1 hz2 rfl (by omega) _ rs.length _ (by rfl) (how5.alloc _) ⟨w5.heap.size, 0, none⟩ 1 1 (ruleCells u (.tuple #[.slice sa u.sels.length sc, .slice da u.decls.length dc])) (by rfl) (by rfl) (World.news_of_block (cs := (ruleCells u (.tuple #[.slice sa u.sels.length sc, .slice da u.decls.length dc])).toArray) (t := 49) (fr := (0, 0)) (heap_alloc_new w5 _)) (by simp [ruleCells, vFst, vSnd, Value.oneCell']) (by omega) (by unfold maxLen; omega) (by omega) (by simp; omega) (w5.heap.size + 1) (by simp) ?_; intro gg cap w6 hown6 hgrow6 hat6 hlt6)
                    obtain ⟨h6, o6, k6, wh6⟩ := rule_round HL3.out hbb hbs3 J5.out H5.out HSV.out HDV.out hown6 hgrow6 hat6
                    have H6 := Lib.hid h6
                    have O6 := Lib.hid o6
                    have KW6 := Lib.hid k6
                    have WH6 := Lib.hid wh6
                    have HM6 : Hid (w6.cell? ⟨0, 0, none⟩ = some (.int .i64 m)) := Lib.hid (k6.cell (fun hs => by
                      rcases hs with hs | hs
                      · have : (0 : Nat) = b := hs; omega
                      · have := (HO.out.own.lt 0 hs).1; omega) HM.out)
                    clear h6 o6 k6 wh6 hown6 hgrow6 how5
                    refine (sblank_sum _ _ _ _ m H6.out HM6.out hb0).mono ?_
                    rintro e w7 (⟨g, rfl, hk, hp7⟩ | ⟨at7, rfl, hk, h7, hp7⟩)
                    · have hR : Hid (r = .bad g) := Lib.hid (by rw [← HE5.out]; unfold rulesFrom; rw [hp7.out]; rfl)
                      have KB := Lib.hid (KW6.out.trans (kept_rs hk))
                      clear hk
                      go_wp2_with fail
                      exact ⟨rfl, .inl ⟨_, rfl, KB.out, hR⟩⟩
                    · have hle7 : at5 ≤ at7 := by obtain ⟨_, _, h1, h2, _⟩ := gap_loc hp7.out; omega
                      have hl7 := h7.2.1
                      have hd : RLp w w7 base b s lv md r (.slice (some ⟨gg, 0, none⟩) (rs.length + 1) cap) (rs ++ [u]) (vs ++ [.tuple #[.slice sa u.sels.length sc, .slice da u.decls.length dc]]) at7 :=
                        ⟨h7, O6.out.kept rule_lasts hbb hk, by simpa using hfew60, KW6.out.trans (kept_rs hk), WH6.out, f, by have := HF.out; rw [List.length_drop] at this ⊢; omega, by
                          have h1 := HE5.out
                          unfold rulesFrom at h1
                          rw [hp7.out] at h1
                          exact h1⟩
                      have HDN := Lib.hid hd
                      clear hk h7 hd
                      go_wp2_with fail
                      go_roundg (s.length - at7)
                      case measure => omega
                      case rel => exact ⟨_, _, at7, HDN.out, rfl⟩
        · have e0 : decide ((at' : Int) < (s.length : Int)) = false := by simp; omega
          have hR : Hid (r = .ok (rs, s.drop at', at')) := Lib.hid (by
            rw [← HST.out, if_pos]
            rw [List.drop_eq_nil_of_le (by omega)]; rfl)
          go_wp2_with fail
          go_quiet (fail)
          go_wp2_with fail
          go_meet
          case rel => exact ⟨rs, vs, at', HL.out.rd.drewN _, HL.out.own.kept rule_lasts hbb ((Kept.refl _ _).drewN _), HL.out.few, HL.out.kept.drewN _, HL.out.whence, hR.out⟩
    case rest =>
      obtain ⟨rs, vs, at', hD⟩ := hcut
      have HD := Lib.hid hD
      clear hD
      go_wp2_with fail
      go_ret
      exact .inr ⟨_, rs, vs, at', rfl, HD.out.own, HD.out.whence, HD.out.kept, HD.out.rd, HD.out.few, Lib.hid HD.out.ok⟩
end Go.Proofs.YtplbdlgmjehckadGreatDoor

namespace Go.Proofs.YtplbdlgmjehckadGreatDoor
open Go.RowKit
set_option linter.unusedVariables false
set_option linter.unusedSimpArgs false
set_option maxHeartbeats 400000 in
theorem sguard_panicking (fb : Nat) (f : Flt) (w : World) (v1 v2 : Value) (hf : w.heap[fb]? = some (.cells #[v1, v2] 26 (0,0))) :
    CallsD Tryz.prog 40 #[.pointer (some ⟨fb, 0, none⟩)] (.panicking ({ v := soops f, recovered := false } :: [])) w fun e u' w' =>
      e = .returned (.tuple #[]) ∧ u' = .panicking ({ v := soops f, recovered := true } :: []) ∧ Kept (· = fb) w w' ∧
        w'.heap[fb]? = some (.cells #[.int .i64 f.err, .int .i64 f.pos] 26 (0,0)) := by
  refine callsD_of_wpS Tryz.func40 rfl fun c₀ cs hu => ?_
  apply wpS_seq
  apply wpS_region
  unfold soops at hu ⊢
  simp [wpOpsS, go_sem, recoverD, hu, Tryz.ntmps40, Exit.thenS]
  refine wpS_of_wp ?_
  have hg : eqGuard .eql 20 (.tmp 5) (.const .nilIface) (.iface 152 (.agg #[.int .i64 (f.err : Int), .int .i64 (f.pos : Int)])) .nilIface = pure () := rfl
  have hta : ∀ w, (Instr.typeAssert (.iface 152 (.agg #[.int .i64 (f.err : Int), .int .i64 (f.pos : Int)])) 20 152 true).run Tryz.prog w = .ok (.tuple #[.agg #[.int .i64 (f.err : Int), .int .i64 (f.pos : Int)], .bool true]) w := fun w => by kernel_rfl
  simp only [Array.replicate_succ, Array.replicate_zero, List.push_toArray, List.append_toArray, List.nil_append, List.cons_append, List.setIfInBounds_toArray, List.set_cons_succ, List.set_cons_zero]
  have g0 := cellIn hf 0 rfl
  have g1 := cellIn hf 1 rfl
  have g0f := freeIn hf 0
  have g1f := freeIn hf 1
  have hfl := ltIn hf
  go_wp2
  simp [bodyPostS, results, Tryz.results40]
  refine ⟨?_, ?_⟩
  · exact ((((Kept.refl (· = fb) w).setCell (p := ⟨fb, 0, none⟩) (.inl rfl) _).setCell (p := ⟨fb, 1, none⟩) (.inl rfl) _).alloc _)
  · exact oldIn (setIn (setIn hf 0 (.int .i64 f.err)) 1 (.int .i64 f.pos)) _
set_option maxHeartbeats 400000 in
theorem sguard_idle (p : Addr) (w : World) :
    CallsD Tryz.prog 40 #[.pointer (some p)] .returning w fun e u' w' => e = .returned (.tuple #[]) ∧ u' = .returning ∧ w' = w := by
  refine callsD_of_wpS Tryz.func40 rfl fun c₀ cs hu => ?_
  apply wpS_seq
  apply wpS_region
  simp [wpOpsS, go_sem, recoverD, hu, Tryz.ntmps40, Exit.thenS]
  refine wpS_of_wp ?_
  have hg : eqGuard .eql 20 (.tmp 5) (.const .nilIface) .nilIface .nilIface = pure () := rfl
  simp only [Array.replicate_succ, Array.replicate_zero, List.push_toArray, List.append_toArray, List.nil_append, List.cons_append, List.setIfInBounds_toArray, List.set_cons_succ, List.set_cons_zero]
  go_wp2
  cases c₀
  simp_all [bodyPostS, results, Tryz.results40]
end Go.Proofs.YtplbdlgmjehckadGreatDoor

