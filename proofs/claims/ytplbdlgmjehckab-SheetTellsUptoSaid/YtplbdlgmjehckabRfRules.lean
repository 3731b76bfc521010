/-
  The document's answer: rules, within media or not.
-/
import Derived.Test.YtplbdlgmjehckabRfRulesP
import Derived.Test.YtplbdlgmjehckabRfDecls
namespace Go.Proofs.Ytplbdlgmjehckab
open Go.RowKit
set_option linter.unusedVariables false
set_option linter.unusedSimpArgs false

def RREnd (w : World) (base b : Nat) (s : B) (v lv : Value) (X : Ans (List PRule × B × Nat)) (e : Ending) (w' : World) : Prop :=
  ∃ (v' : Value) (rs : List PRule) (vs : List Value) (f : Flt) (p : Nat), e = .returned v' ∧ RulesOwn w' base v' rs vs ∧ (∀ k, v'.ownBlock = some k → lv.ownBlock = some k ∨ w.heap.size ≤ k) ∧ Kept (RS b lv) w w' ∧ WkAt w' b s p f v ∧ (f.err = 0 → f = good) ∧ rs.length ≤ 60 ∧ Hid (Step good X f (rs, s.drop p, p))
/-- at the head of the loop over rules -/
structure RRLp (w wr : World) (base b : Nat) (s : B) (v lv l : Value) (rs : List PRule) (vs : List Value) (f : Flt) (p : Nat) : Prop where
  rd : WkAt wr b s p f v
  own : RulesOwn wr base l rs vs
  few : rs.length ≤ 60
  kept : Kept (RS b lv) w wr
  whence : ∀ k, l.ownBlock = some k → lv.ownBlock = some k ∨ w.heap.size ≤ k
  al : f.err = 0 → f = good
theorem RRLp.step {w wr wx : World} {base b : Nat} {s : B} {v lv l : Value} {rs : List PRule} {vs : List Value} {f f' : Flt} {p p' : Nat} (h : RRLp w wr base b s v lv l rs vs f p) (hb : b < base) (hk : Kept (· = b) wr wx) (hr : WkAt wx b s p' f' v) (ha : f'.err = 0 → f' = good) : RRLp w wx base b s v lv l rs vs f' p' :=
  ⟨hr, h.own.kept rule_lasts hb hk, h.few, h.kept.trans (kept_rs hk), h.whence, ha⟩

/-- at the head of the loop over a rule's selectors -/
structure RXLp (w wr : World) (b nb : Nat) (s md : B) (a0 : Nat) (v sv : Value) (ss : List PSel) (vs : List Value) (f : Flt) (p : Nat) : Prop where
  rd : WkAt wr b s p f v
  node : wr.heap[nb]? = some (.cells #[.string (str md), sv, .slice none 0 0, .int .i64 (a0 : Int), .int .i64 0] 42 (0, 0))
  own : SelOwn wr (nb + 1) sv ss vs
  few : ss.length ≤ 8
  kept : Kept (· = b) w wr
  al : f.err = 0 → f = good

theorem RXLp.step {w wr wx : World} {b nb : Nat} {s md : B} {a0 : Nat} {v sv : Value} {ss : List PSel} {vs : List Value} {f f' : Flt} {p p' : Nat} (h : RXLp w wr b nb s md a0 v sv ss vs f p) (hb : b < nb) (hk : Kept (· = b) wr wx) (hr : WkAt wx b s p' f' v) (ha : f'.err = 0 → f' = good) : RXLp w wx b nb s md a0 v sv ss vs f' p' :=
  ⟨hr, hk.heap (by show ¬ nb = b; omega) h.node, h.own.kept parts_lasts (by omega) hk, h.few, h.kept.trans hk, ha⟩

/-- behind a rule's declarations -/
structure RYLp (w wr : World) (b nb : Nat) (s md : B) (a0 : Nat) (v sv dv : Value) (ss : List PSel) (ds : List PDecl) (f : Flt) (p : Nat) : Prop where
  rd : WkAt wr b s p f v
  node : wr.heap[nb]? = some (.cells #[.string (str md), sv, dv, .int .i64 (a0 : Int), .int .i64 0] 42 (0, 0))
  sels : SelsIn wr (fun k => k < nb + 1) sv ss
  decls : DeclsIn wr (fun k => k < nb + 1) dv ds
  kept : Kept (· = b) w wr
  al : f.err = 0 → f = good
theorem RYLp.step {w wr wx : World} {b nb : Nat} {s md : B} {a0 : Nat} {v sv dv : Value} {ss : List PSel} {ds : List PDecl} {f f' : Flt} {p p' : Nat} (h : RYLp w wr b nb s md a0 v sv dv ss ds f p) (hb : b < nb) (hk : Kept (· = b) wr wx) (hr : WkAt wx b s p' f' v) (ha : f'.err = 0 → f' = good) : RYLp w wx b nb s md a0 v sv dv ss ds f' p' :=
  ⟨hr, hk.heap (by show ¬ nb = b; omega) h.node, sels_lasts _ _ _ _ _ _ _ h.sels hk (fun k _ hs => by have : k = b := hs; show k < nb + 1; omega) (fun k _ hx => hx), decls_lasts _ _ _ _ _ _ _ h.decls hk (fun k _ hs => by have : k = b := hs; show k < nb + 1; omega) (fun k _ hx => hx), h.kept.trans hk, ha⟩

/-- one rule more -/
theorem rrule_push {w wr w5 w6 : World} {base b gg cap p0 p5 : Nat} {s : B} {v lv l sv dv : Value} {rs : List PRule} {vs : List Value} {u : PRule} {f0 f5 : Flt} {o : Obj}
    (hL : RRLp w wr base b s v lv l rs vs f0 p0) (hb : b < base) (hbs : base ≤ wr.heap.size) (hk5 : Kept (· = b) wr w5) (hr5 : WkAt w5 b s p5 f5 v) (ha5 : f5.err = 0 → f5 = good) (hfew : rs.length + 1 ≤ 60)
    (hs : SelsIn w5 (fun k => k < wr.heap.size) sv u.sels) (hd : DeclsIn w5 (fun k => k < wr.heap.size) dv u.decls)
    (hown : w6.ownsRow base 42 5 (.slice (some ⟨gg, 0, none⟩) (rs.length + 1) cap) (rs.length + 1) ((List.zipWith ruleCells rs vs).flatten ++ ruleCells u (.tuple #[sv, dv])))
    (hgrow : (w5.alloc o).grownBy w6 l.ownBlock) (hat : l.ownBlock = some gg ∨ gg = w5.heap.size + 1) :
    RRLp w w6 base b s v lv (.slice (some ⟨gg, 0, none⟩) (rs.length + 1) cap) (rs ++ [u]) (vs ++ [.tuple #[sv, dv]]) f5 p5 := by
  have hlt := hL.own.own.lt
  have hk6 : Kept (fun k => l.ownBlock = some k) w5 w6 := ((Kept.refl _ w5).alloc o).grown hgrow (fun k hk => .inl hk)
  have o5 : RulesOwn w5 base l rs vs := hL.own.kept rule_lasts hb hk5
  have hsz := hk5.size
  have hsw := hL.kept.size
  refine ⟨hr5.kept hk6 (fun h => by have := (hlt b h).1; omega), ?_, by simpa using hfew, ?_, ?_, ha5⟩
  · refine o5.push rule_lasts ?_ hown hgrow (by rcases hat with h | h; exact .inl h; exact .inr (by omega))
    have hX : ∀ k, k < w5.heap.size → (k < base ∨ l.ownBlock = some k) → k < wr.heap.size := fun k _ hx => by
      rcases hx with hx | hx
      · omega
      · exact (hlt k hx).2
    exact ⟨sv, dv, rfl, sels_lasts _ _ _ _ (fun _ => False) _ _ hs (Kept.refl _ _) (fun k _ hs => hs.elim) hX, decls_lasts _ _ _ _ (fun _ => False) _ _ hd (Kept.refl _ _) (fun k _ hs => hs.elim) hX⟩
  · refine ((hL.kept.trans (kept_rs hk5)).alloc o).grown hgrow (fun k hk => ?_)
    rcases hL.whence k hk with h | h
    · exact .inl (.inr h)
    · exact .inr h
  · intro k hk
    simp only [Value.ownBlock, Option.some.injEq] at hk
    subst hk
    rcases hat with h | h
    · exact hL.whence _ h
    · exact .inr (by omega)

set_option maxRecDepth 100000 in
set_option maxHeartbeats 12800000 in
theorem rrules_gen (md s : B) (b base : Nat) (v : Value) (hbb : b < base)
    (IH : md = [] → ∀ (nm : B) (g : Nat) (rs : List PRule) (vs : List Value) (lv : Value) (a : Nat) (w : World), nm ≠ [] → WkAt w b s a good v → base ≤ w.heap.size → RulesOwn w base lv rs vs → rs.length ≤ 60 → (s.drop a).length < g →
      Calls Try.prog 22 #[.pointer (some ⟨b, 0, none⟩), lv, .string (str nm)] w (RREnd w base b s v lv (rulesFrom g nm rs (s.drop a) a)))
    (g : Nat) (rs0 : List PRule) (vs0 : List Value) (lv : Value) (a : Nat) (w : World) (h : WkAt w b s a good v) (hbs : base ≤ w.heap.size) (how : RulesOwn w base lv rs0 vs0) (hfew : rs0.length ≤ 60) (hg : (s.drop a).length < g) :
    Calls Try.prog 22 #[.pointer (some ⟨b, 0, none⟩), lv, .string (str md)] w (RREnd w base b s v lv (rulesFrom g md rs0 (s.drop a) a)) := by
  obtain ⟨R, HR⟩ : ∃ R, Hid (rulesFrom g md rs0 (s.drop a) a = R) := ⟨_, Lib.hid rfl⟩
  rw [HR.out]
  have HI := Lib.hid IH
  have HO := Lib.hid how
  obtain ⟨i0, hi0, hz0, hz1, hz2⟩ := info_parts info_rule
  obtain ⟨j0, hj0, hy0, hy1, hy2⟩ := info_parts info_sel
  have H := Lib.hid h
  have hl := h.2.1
  have hmx := h.2.2
  have HG := Lib.hid hg
  clear h IH how hg
  go_enter Try.func22, Try.ntmps22
  go_wp2_with fail
  refine (rblank_gen _ b s a good v H.out (fun _ => rfl)).mono ?_
  rintro e w1 ⟨f1, p1, rfl, hk1, h1, hg1, hs1⟩
  have HM1 : Hid (Mid good R f1 (sRulesL g md rs0 (s.drop p1) p1)) := Lib.hid (by
    have := Mid.start (rulesFrom g md rs0 (s.drop a) a) good
    rw [HR.out] at this
    exact (this.eq (Y := (sGap (s.drop a) a).then fun y => sRulesL g md rs0 y.1 y.2) (fun _ => by rw [← HR.out]; rfl)).step hs1.out)
  have HL1 : Hid (RRLp w w1 base b s v lv lv rs0 vs0 f1 p1) := Lib.hid ⟨h1, HO.out.kept rule_lasts hbb hk1, hfew, kept_rs hk1, fun k hk => .inl hk, hg1⟩
  have hn1 : f1.err = 0 → s.length - p1 < g := fun hh => by
    have h1 := gap_low hs1.out hh
    have h2 := HG.out
    rw [List.length_drop] at h2
    omega
  have hl1 := h1.2.1
  clear hk1 h1 hg1 hs1 HO H HR
  go_upto_block 0 with fail
  go_cut [1] (fun l wx => ∃ (rs : List PRule) (vs : List Value) (f : Flt) (p : Nat), Hid (RRLp w wx base b s v lv l rs vs f p) ∧ Hid (Mid good R f (.ok (rs, s.drop p, p))))
  case rest =>
    obtain ⟨rs, vs, f, p, HL, HM⟩ := hcut
    go_wp2_with fail
    go_ret
    have HSF : Hid (Step good R f (rs, s.drop p, p)) := Lib.hid (Mid.fin HM.out)
    exact ⟨_, rs, vs, f, p, rfl, HL.out.own, HL.out.whence, HL.out.kept, HL.out.rd, HL.out.al, HL.out.few, HSF⟩
  case first =>
    go_wp2_with fail
    go_loopg [1] (s.length - p1 + 1) (fun k l wr => ∃ (rs : List PRule) (vs : List Value) (f : Flt) (p n : Nat), Hid (RRLp w wr base b s v lv l rs vs f p) ∧ Hid (Mid good R f (sRulesL n md rs (s.drop p) p)) ∧ (f.err = 0 → s.length - p < n ∧ k = s.length - p + 1))
    case atStart => exact ⟨rs0, vs0, f1, p1, g, HL1, HM1, fun hf => ⟨hn1 hf, rfl⟩⟩
    case round =>
      obtain ⟨rs, vs, f, p, n, HL, HM, hal⟩ := hrel
      obtain ⟨lo, lc, rfl⟩ := HL.out.own.form
      have hfew := HL.out.few
      have c0 := HL.out.rd.c0
      have c1 := HL.out.rd.c1
      by_cases hf : f.err = 0
      · obtain rfl := HL.out.al hf
        obtain ⟨hn, hk⟩ := hal rfl
        clear hal hf
        obtain ⟨n, rfl⟩ : ∃ m, n = m + 1 := ⟨n - 1, by omega⟩
        have hlp := HL.out.rd.2.1
        by_cases hlt : p < s.length
        · have hne : (s.drop p).isEmpty = false := by
            cases hx : s.drop p with
            | nil => have := congrArg List.length hx; rw [List.length_drop] at this; simp at this; omega
            | cons a t => rfl
          cases hm1 : ([125] : B).isPrefixOf (s.drop p) with
          | true =>
            have HX : Hid (Mid good R good (.ok (rs, s.drop p, p))) := Lib.hid (HM.out.eq (fun _ => rulesL_end (by rw [hne, hm1]; rfl)))
            have HM1 := Lib.hid hm1
            clear hm1
            go_wp2_with fail
            go_quiet (first | (go_at_call 23; exact Calls.quiet_of_same (ok_is true _ b s p good v HL.out.rd rfl)) | (go_at_call 37; exact Calls.quiet_of (on_good [125] true _ b s p good v HL.out.rd rfl (by decide) HM1.out)))
            go_wp2_with fail
            go_meet
            case rel => exact ⟨rs, vs, good, p, Lib.hid (HL.out.step hbb ((Kept.refl _ _).drewN _) (HL.out.rd.drewN _) (fun _ => rfl)), HX⟩
          | false =>
            have HEND : Hid (((s.drop p).isEmpty || ([125] : B).isPrefixOf (s.drop p)) = false) := Lib.hid (by rw [hne, hm1]; rfl)
            have HM1 := Lib.hid hm1
            clear hm1 hne
            go_wp2_with fail
            go_quiet (first | (go_at_call 23; exact Calls.quiet_of_same (ok_is true _ b s p good v HL.out.rd rfl)) | (go_at_call 37; exact Calls.quiet_of (on_good [125] false _ b s p good v HL.out.rd rfl (by decide) HM1.out)))
            obtain ⟨w2, HW2⟩ : ∃ x, Hid (wr.drewN nq = x) := ⟨_, Lib.hid rfl⟩
            have HL2 : Hid (RRLp w w2 base b s v lv (.slice lo rs.length lc) rs vs good p) := Lib.hid (by rw [← HW2.out]; exact HL.out.step hbb ((Kept.refl _ _).drewN _) (HL.out.rd.drewN _) (fun _ => rfl))
            rw [HW2.out]
            clear HL c0 c1 HM1 HW2
            have hmd0 : md.isEmpty = true ∨ md.isEmpty = false := by cases md.isEmpty <;> simp
            go_upto_region 3 with fail
            obtain ⟨q, HQ⟩ : ∃ q, Hid ((md.isEmpty && mediaWord.isPrefixOf (s.drop p)) = q) := ⟨_, Lib.hid rfl⟩
            go_cut [35] (fun x wx => x = .bool q ∧ Hid (WkAt wx b s (p + if q = true then 6 else 0) good v) ∧ Hid (Kept (· = b) w2 wx))
            case first =>
              rcases hmd0 with hmd | hmd
              · obtain ⟨q2, HQ2⟩ : ∃ q2, Hid (mediaWord.isPrefixOf (s.drop p) = q2) := ⟨_, Lib.hid rfl⟩
                obtain rfl : q = q2 := by rw [← HQ.out, hmd, HQ2.out]; rfl
                cases q with
                | true =>
                  go_wp2_with fail
                  refine (eat_yes mediaWord _ b s p good v HL2.out.rd rfl (by decide) (by decide) HQ2.out).mono ?_
                  rintro e w3 ⟨rfl, hk3, h3⟩
                  have H3 : Hid (WkAt w3 b s (p + if true = true then 6 else 0) good v) := Lib.hid h3
                  have K3 := Lib.hid hk3
                  clear hk3 h3
                  go_wp2_with fail
                  go_meet
                  case rel => exact ⟨rfl, H3, K3⟩
                | false =>
                  go_wp2_with fail
                  refine (eat_no mediaWord _ b s p good v HL2.out.rd (by decide) (fun _ => HQ2.out)).mono ?_
                  rintro e w3 ⟨rfl, nq3, rfl⟩
                  have H3 : Hid (WkAt (w2.drewN nq3) b s (p + if false = true then 6 else 0) good v) := Lib.hid (HL2.out.rd.drewN _)
                  have K3 : Hid (Kept (· = b) w2 (w2.drewN nq3)) := Lib.hid ((Kept.refl _ _).drewN _)
                  go_wp2_with fail
                  go_meet
                  case rel => exact ⟨rfl, H3, K3⟩
              · obtain rfl : q = false := by rw [← HQ.out, hmd]; rfl
                go_wp2_with fail
                go_meet
                case rel => exact ⟨rfl, Lib.hid HL2.out.rd, Lib.hid (Kept.refl _ _)⟩
            case rest =>
              obtain ⟨rfl, H3, K3⟩ := hcut
              obtain ⟨w3, hw3⟩ : ∃ x, x = wc := ⟨_, rfl⟩
              subst hw3
              have HL3 := Lib.hid (HL2.out.step hbb K3.out H3.out (fun _ => rfl))
              clear HL2 K3 H3 hmd0
              cases q with
              | true =>
                obtain rfl : md = [] := by
                  have := HQ.out
                  cases md with
                  | nil => rfl
                  | cons a t => simp at this
                have HLm : Hid (RRLp w w3 base b s v lv (.slice lo rs.length lc) rs vs good (p + 6)) := Lib.hid HL3.out
                have HMm : Hid (Mid good R good ((sGap (s.drop (p + 6)) (p + 6)).then (kM1 n [] rs (p + 6)))) := Lib.hid (HM.out.eq (fun _ => by rw [rulesL_media HEND.out HQ.out, List.drop_drop, media_eq]))
                clear HL3 HM HEND HQ HL1 HM1
                go_wp2_with fail
                refine (rblank_gen _ b s (p + 6) good v HLm.out.rd (fun _ => rfl)).mono ?_
                rintro e w4 ⟨f4, p4, rfl, hk4, h4, hg4, hs4⟩
                have HM4 : Hid (Mid good R f4 (kM1 n [] rs (p + 6) (s.drop p4, p4))) := Lib.hid (HMm.out.step (k := kM1 n [] rs (p + 6)) hs4.out)
                have hp4 : f4.err = 0 → p + 6 ≤ p4 := fun hh => gap_low hs4.out hh
                have HL4 := Lib.hid (HLm.out.step hbb hk4 h4 hg4)
                clear hk4 h4 hs4 HLm HMm
                obtain ⟨gb, HGB⟩ : ∃ g, Hid (decide (p + 6 < p4) = g) := ⟨_, Lib.hid rfl⟩
                rw [HGB.out]
                have c1 := HL4.out.rd.c1
                go_upto_if 38 with fail
                go_cut [] (fun wx => ∃ (f5 : Flt), Hid (RRLp w wx base b s v lv (.slice lo rs.length lc) rs vs f5 p4) ∧ (f5.err = 0 → p + 6 ≤ p4) ∧ Hid (Mid good R f5 ((sName (s.drop p4) p4).then (kM2 n [] rs))))
                case first =>
                  cases gb with
                  | true =>
                    have hlt4 : p + 6 < p4 := by simpa using HGB.out
                    have HM5 : Hid (Mid good R f4 ((sName (s.drop p4) p4).then (kM2 n [] rs))) := Lib.hid (HM4.out.eq (fun _ => by
                      show kM1 n [] rs (p + 6) (s.drop p4, p4) = _
                      unfold kM1; rw [if_neg (by show ¬ p4 = p + 6; omega)]))
                    go_wp2_with fail
                    go_meet
                    case rel => exact ⟨f4, HL4, hp4, HM5⟩
                  | false =>
                    have hge4 : ¬ p + 6 < p4 := by simpa using HGB.out
                    by_cases hf4 : f4.err = 0
                    · have HX : Hid (kM1 n [] rs (p + 6) (s.drop p4, p4) = .bad ⟨2, p4⟩) := Lib.hid (by
                        have := hp4 hf4
                        unfold kM1; rw [if_pos (by show p4 = p + 6; omega)])
                      go_wp2_with fail
                      refine (stop_good 2 p4 _ b s p4 f4 v HL4.out.rd hf4).mono ?_
                      rintro e w5 ⟨rfl, hk5, h5⟩
                      have HL5 := Lib.hid (HL4.out.step hbb hk5 h5 (fun hh => absurd hh (by simp)))
                      clear hk5 h5
                      go_wp2_with fail
                      go_meet
                      case rel => exact ⟨⟨2, p4⟩, HL5, fun hh => absurd hh (by simp), Lib.hid (HM4.out.kill hf4 HX.out (by simp))⟩
                    · go_wp2_with fail
                      refine (stop_dead 2 (p4 : Int) _ b s p4 f4 v HL4.out.rd hf4).mono ?_
                      rintro e w5 ⟨rfl, hw5⟩
                      rw [hw5]
                      clear hw5
                      go_wp2_with fail
                      go_meet
                      case rel => exact ⟨f4, HL4, hp4, Lib.hid (HM4.out.dead hf4)⟩
                case rest =>
                  obtain ⟨f5, HL5, hp5, HM5⟩ := hcut
                  obtain ⟨w5, hw5⟩ : ∃ x, x = wc := ⟨_, rfl⟩
                  subst hw5
                  clear HL4 hp4 HM4 HGB hg4 c1
                  by_cases hf5 : f5.err = 0
                  · obtain rfl := HL5.out.al hf5
                    have hp5' := hp5 hf5
                    clear hf5 hp5
                    go_wp2_with fail
                    refine (ok_is true _ b s p4 good v HL5.out.rd rfl).mono ?_
                    rintro e w6 ⟨rfl, hw6⟩
                    rw [hw6]
                    clear hw6
                    go_wp2_with fail
                    refine (sname_gen _ b s p4 good v HL5.out.rd (fun _ => rfl)).mono ?_
                    rintro e w7 ⟨nm, rfl, hk7, f7, p7, h7, hg7, hnl7, hs7⟩
                    have HM7 := Lib.hid (HM5.out.step (k := kM2 n [] rs) hs7.out)
                    have HL7 := Lib.hid (HL5.out.step hbb hk7 h7 (fun hh => (hg7 hh).1))
                    have HK7 := Lib.hid hk7
                    have hnm7 : f7.err = 0 → nm ≠ [] ∧ p4 < p7 := fun hh => by
                      rcases hs7.out.2 rfl with ⟨_, h⟩ | ⟨h, _⟩
                      · obtain ⟨h1, h2, h3, _⟩ := name_pos h
                        exact ⟨by rintro rfl; simp at h1, by omega⟩
                      · exact absurd hh h
                    clear hk7 h7 hg7 hs7 HM5
                    go_wp2_with fail
                    refine (rblank_gen _ b s p7 f7 v HL7.out.rd HL7.out.al).mono ?_
                    rintro e w8 ⟨f8, p8, rfl, hk8, h8, hg8, hs8⟩
                    have HM8 := Lib.hid (HM7.out.step (k := kM3 n [] rs nm) hs8.out)
                    have HL8 := Lib.hid (HL7.out.step hbb hk8 h8 hg8)
                    have HK8 := Lib.hid (HK7.out.trans hk8)
                    have hp8 : f8.err = 0 → f7.err = 0 ∧ p7 ≤ p8 := fun hh => by
                      by_cases h : f7.err = 0
                      · obtain rfl := HL7.out.al h
                        exact ⟨rfl, gap_low hs8.out hh⟩
                      · rw [hs8.out.1 h] at hh; exact absurd hh h
                    clear hk8 h8 hg8 hs8 HM7
                    go_wp2_with fail
                    refine (need_gen [123] _ b s p8 f8 v HL8.out.rd HL8.out.al (by decide) (by simp)).mono ?_
                    rintro e w9 ⟨rfl, hk9, f9, p9, h9, hg9, hs9⟩
                    have HM9 := Lib.hid (HM8.out.step (k := kM4 n [] rs nm) hs9.out)
                    have HL9 := Lib.hid (HL8.out.step hbb hk9 h9 hg9)
                    have HK9 := Lib.hid (HK8.out.trans hk9)
                    have hp9 : f9.err = 0 → f8.err = 0 ∧ p8 ≤ p9 := fun hh => by
                      by_cases h : f8.err = 0
                      · rcases hs9.out.2 h with ⟨_, h2⟩ | ⟨h2, _⟩
                        · exact ⟨h, by have := (must_loc h2).2.1; omega⟩
                        · exact absurd hh h2
                      · rw [hs9.out.1 h] at hh; exact absurd hh h
                    clear hk9 h9 hg9 hs9 HM8 HL7 HL8 HK7 HK8
                    by_cases hf9 : f9.err = 0
                    · obtain ⟨h1, hp9'⟩ := hp9 hf9
                      obtain ⟨h2, hp8'⟩ := hp8 h1
                      obtain ⟨HNM', hp7'⟩ := hnm7 h2
                      obtain rfl := HL9.out.al hf9
                      have hsz9 : base ≤ w9.heap.size := by have := HL9.out.kept.size; omega
                      have hl9 := HL9.out.rd.2.1
                      have hg9 : (s.drop p9).length < n := by rw [List.length_drop]; omega
                      have HC := Lib.hid (HI.out (by simp) nm n rs vs (.slice lo rs.length lc) p9 w9 HNM' HL9.out.rd hsz9 HL9.out.own HL9.out.few hg9)
                      have HLT : Hid (p < p9) := Lib.hid (by omega)
                      have HNM := Lib.hid HNM'
                      clear h1 h2 hp9 hp8 hnm7 hf9 hsz9 hg9 hp9' hp8' hp7' HNM'
                      go_wp2_with fail
                      refine (ok_is true _ b s p9 good v HL9.out.rd rfl).mono ?_
                      rintro e w10 ⟨rfl, hw10⟩
                      rw [hw10]
                      clear hw10
                      go_wp2_with fail
                      refine HC.out.mono ?_
                      rintro e w11 ⟨v11, rs11, vs11, f11, p11, rfl, ho11, hwh11, hk11, h11, hg11, hfew11, hs11⟩
                      have HM11 := Lib.hid (HM9.out.step (k := kM5 n []) hs11.out)
                      have hp11 : f11.err = 0 → p9 ≤ p11 := fun hh => by
                        rcases hs11.out.2 rfl with ⟨_, h1⟩ | ⟨h1, _⟩
                        · unfold rulesFrom at h1
                          obtain ⟨⟨l2, a2⟩, g1, g2⟩ := then_ok h1
                          obtain ⟨_, _, _, h2, _⟩ := gap_loc g1
                          obtain ⟨_, _, _, h3, _⟩ := in_inv _ _ _ _ _ _ _ _ HNM.out HL9.out.few g2
                          omega
                        · exact absurd hh h1
                      obtain ⟨lo11, lc11, rfl⟩ := ho11.form
                      have HL11 : Hid (RRLp w w11 base b s v lv (.slice lo11 rs11.length lc11) rs11 vs11 f11 p11) := Lib.hid ⟨h11, ho11, hfew11, HL9.out.kept.trans' hk11 (fun k hk hs => by
                          rcases hs with hs | hs
                          · exact .inl hs
                          · rcases HL9.out.whence k hs with h | h
                            · exact .inr h
                            · omega), fun k hk => by
                          rcases hwh11 k hk with h | h
                          · exact HL9.out.whence k h
                          · have := HL9.out.kept.size; exact .inr (by omega), hg11⟩
                      clear ho11 hwh11 hk11 h11 hg11 hfew11 hs11 HM9 HC
                      go_wp2_with fail
                      refine (need_gen [125] _ b s p11 f11 v HL11.out.rd HL11.out.al (by decide) (by simp)).mono ?_
                      rintro e w12 ⟨rfl, hk12, f12, p12, h12, hg12, hs12⟩
                      have HM12 : Hid (Mid good R f12 ((sGap (s.drop p12) p12).then fun y => sRulesL n [] rs11 y.1 y.2)) := Lib.hid (HM11.out.step (k := fun y => rulesFrom n [] rs11 y.1 y.2) hs12.out)
                      have HL12 := Lib.hid (HL11.out.step hbb hk12 h12 hg12)
                      have hp12 : f12.err = 0 → f11.err = 0 ∧ p11 ≤ p12 := fun hh => by
                        by_cases h : f11.err = 0
                        · rcases hs12.out.2 h with ⟨_, h2⟩ | ⟨h2, _⟩
                          · exact ⟨h, by have := (must_loc h2).2.1; omega⟩
                          · exact absurd hh h2
                        · rw [hs12.out.1 h] at hh; exact absurd hh h
                      clear hk12 h12 hg12 hs12 HM11
                      go_wp2_with fail
                      refine (rblank_gen _ b s p12 f12 v HL12.out.rd HL12.out.al).mono ?_
                      rintro e w13 ⟨f13, p13, rfl, hk13, h13, hg13, hs13⟩
                      have HM13 : Hid (Mid good R f13 (sRulesL n [] rs11 (s.drop p13) p13)) := Lib.hid (HM12.out.step (k := fun y => sRulesL n [] rs11 y.1 y.2) hs13.out)
                      have HL13 := Lib.hid (HL12.out.step hbb hk13 h13 hg13)
                      have hp13 : f13.err = 0 → f12.err = 0 ∧ p12 ≤ p13 := fun hh => by
                        by_cases h : f12.err = 0
                        · obtain rfl := HL12.out.al h
                          exact ⟨rfl, gap_low hs13.out hh⟩
                        · rw [hs13.out.1 h] at hh; exact absurd hh h
                      have hl13 := h13.2.1
                      clear hk13 h13 hg13 hs13 HM12
                      go_wp2_with fail
                      by_cases hf13 : f13.err = 0
                      · obtain ⟨h1, h2⟩ := hp13 hf13
                        obtain ⟨h3, h4⟩ := hp12 h1
                        have h5 := hp11 h3
                        have h6 := HLT.out
                        go_roundg (s.length - p13 + 1)
                        case measure => omega
                        case rel => exact ⟨rs11, vs11, f13, p13, n, HL13, HM13, fun _ => ⟨by omega, rfl⟩⟩
                      · go_roundg 0
                        case measure => omega
                        case rel => exact ⟨rs11, vs11, f13, p13, n, HL13, HM13, fun hh => absurd hh hf13⟩
                    · have hf' : ((f9.err : Int) == 0) = false := by simp; omega
                      go_wp2_with fail
                      refine (ok_is false _ b s p9 f9 v HL9.out.rd hf').mono ?_
                      rintro e w10 ⟨rfl, hw10⟩
                      rw [hw10]
                      clear hw10
                      go_wp2_with fail
                      go_meet
                      case rel => exact ⟨rs, vs, f9, p9, HL9, Lib.hid (HM9.out.dead hf9)⟩
                  · have hf' : ((f5.err : Int) == 0) = false := by simp; omega
                    go_wp2_with fail
                    refine (ok_is false _ b s p4 f5 v HL5.out.rd hf').mono ?_
                    rintro e w6 ⟨rfl, hw6⟩
                    rw [hw6]
                    clear hw6
                    go_wp2_with fail
                    go_meet
                    case rel => exact ⟨rs, vs, f5, p4, HL5, Lib.hid (HM5.out.dead hf5)⟩
              | false =>
                have H60 : Hid (rs.length = 60 → sRulesL (n + 1) md rs (s.drop p) p = .bad ⟨5, p⟩) := Lib.hid (fun h => rulesL_many HEND.out HQ.out h)
                by_cases h60 : rs.length = 60
                · have h60I : (60 : Int) ≤ (rs.length : Int) := by omega
                  have HX := Lib.hid (H60.out h60)
                  have c1 := HL3.out.rd.c1
                  clear h60 H60
                  go_wp2_with fail
                  refine (stop_good 5 p _ b s p good v HL3.out.rd rfl).mono ?_
                  rintro e w4 ⟨rfl, hk4, h4⟩
                  have HL4 := Lib.hid (HL3.out.step hbb hk4 h4 (fun hh => absurd hh (by simp)))
                  clear hk4 h4
                  go_wp2_with fail
                  go_meet
                  case rel => exact ⟨rs, vs, ⟨5, p⟩, p, HL4, Lib.hid (HM.out.kill rfl HX.out (by simp))⟩
                · have HM3 : Hid (Mid good R good ((sRule md (s.drop p) p).then fun x => rulesFrom n md (rs ++ [x.1]) x.2.1 x.2.2)) := Lib.hid (HM.out.eq (fun _ => rulesL_more HEND.out HQ.out h60))
                  have h60I : ¬ (60 : Int) ≤ (rs.length : Int) := by omega
                  clear H60 h60
                  have HL : Hid (RRLp w w3 base b s v lv (.slice lo rs.length lc) rs vs good p) := Lib.hid HL3.out
                  have hfew1 : rs.length + 1 ≤ 60 := by omega
                  clear HL3 HM HI HM1
                  obtain ⟨RS0, HRS⟩ : ∃ x, Hid (sSelsL ((s.drop p).length + 1) [] (s.drop p) p = x) := ⟨_, Lib.hid rfl⟩
                  obtain ⟨RU, HRU⟩ : ∃ x, Hid (sRule md (s.drop p) p = x) := ⟨_, Lib.hid rfl⟩
                  have HM4 : Hid (Mid good R good (RU.then fun x => rulesFrom n md (rs ++ [x.1]) x.2.1 x.2.2)) := Lib.hid (by rw [← HRU.out]; exact HM3.out)
                  have HMU : Hid (Mid good RU good (RS0.then (kBrace md p))) := Lib.hid (by
                    have := Mid.start (sRule md (s.drop p) p) good
                    rw [HRU.out] at this
                    exact this.eq (fun _ => by rw [← HRU.out, sRule_eq, HRS.out]))
                  have HMS : Hid (Mid good RS0 good (sSelsL ((s.drop p).length + 1) [] (s.drop p) p)) := Lib.hid (by rw [HRS.out]; exact Mid.start _ _)
                  clear HM3
                  have c1 := HL.out.rd.c1
                  go_upto_block 2 with fail
                  obtain ⟨nb, HNB⟩ : ∃ x, Hid (w3.heap.size = x) := ⟨_, Lib.hid rfl⟩
                  obtain ⟨wa, HWA⟩ : ∃ x, Hid (w3.alloc (.cells #[.string (str md), .slice none 0 0, .slice none 0 0, .int .i64 (p : Int), .int .i64 0] 42 (0, 0)) = x) := ⟨_, Lib.hid rfl⟩
                  have HXL : Hid (RXLp w3 wa b nb s md p v (.slice none 0 0) [] [] good p) := Lib.hid (by
                    rw [← HWA.out, ← HNB.out]
                    exact ⟨HL.out.rd.alloc _, newIn _ _, NestOwn.nil _ _, by simp, (Kept.refl _ _).alloc _, fun _ => rfl⟩)
                  rw [HWA.out, HNB.out]
                  go_cut [] (fun wx => ∃ (sv : Value) (ss : List PSel) (us : List Value) (f : Flt) (p' : Nat), Hid (RXLp w3 wx b nb s md p v sv ss us f p') ∧ Hid (Mid good RS0 f (.ok (ss, s.drop p', p'))))
                  case first =>
                    go_wp2_with fail
                    go_loopg [] (s.length - p + 1) (fun k wr => ∃ (sv : Value) (ss : List PSel) (us : List Value) (f : Flt) (p' n' : Nat), Hid (RXLp w3 wr b nb s md p v sv ss us f p') ∧ Hid (Mid good RS0 f (sSelsL n' ss (s.drop p') p')) ∧ (f.err = 0 → s.length - p' < n' ∧ k = s.length - p' + 1))
                    case atStart => exact ⟨_, [], [], good, p, _, HXL, HMS, fun _ => ⟨by rw [List.length_drop]; omega, rfl⟩⟩
                    case round =>
                      obtain ⟨sv, ss, us, f, p', m, HX, HMX, hal⟩ := hrel
                      obtain ⟨so, sc, rfl⟩ := HX.out.own.form
                      have hfew8 := HX.out.few
                      by_cases hf : f.err = 0
                      · obtain rfl := HX.out.al hf
                        obtain ⟨hm, hk'⟩ := hal rfl
                        clear hal hf
                        obtain ⟨m, rfl⟩ : ∃ x, m = x + 1 := ⟨m - 1, by omega⟩
                        have n1 := cellIn HX.out.node 1 rfl
                        have x1 := HX.out.rd.c1
                        by_cases h8 : ss.length = 8
                        · have h8I : (8 : Int) ≤ (ss.length : Int) := by omega
                          have HB := Lib.hid (selsL_many (n := m) (l := s.drop p') (a := p') h8)
                          clear h8
                          go_wp2_with fail
                          refine (ok_is true _ b s p' good v HX.out.rd rfl).mono ?_
                          rintro e w5 ⟨rfl, hw5⟩
                          rw [hw5]
                          clear hw5
                          go_wp2_with fail
                          refine (stop_good 5 p' _ b s p' good v HX.out.rd rfl).mono ?_
                          rintro e w6 ⟨rfl, hk6, h6⟩
                          have hnb : ¬ nb = b := by have := HL.out.rd.lt; have := HNB.out; omega
                          have hbn : b < nb + 1 := by have := HL.out.rd.lt; have := HNB.out; omega
                          have HX6 : Hid (RXLp w3 w6 b nb s md p v (.slice so ss.length sc) ss us ⟨5, p'⟩ p') := Lib.hid ⟨h6, hk6.heap hnb HX.out.node, HX.out.own.kept parts_lasts hbn hk6, hfew8, HX.out.kept.trans hk6, fun hh => absurd hh (by simp)⟩
                          clear hk6 h6
                          go_wp2_with fail
                          go_meet
                          case rel => exact ⟨_, ss, us, ⟨5, p'⟩, p', HX6, Lib.hid (HMX.out.kill rfl HB.out (by simp))⟩
                        · have HMS2 : Hid (Mid good RS0 good ((sSel (s.drop p') p').then (kComma m ss))) := Lib.hid (HMX.out.eq (fun _ => selsL_more h8))
                          have h8I : ¬ (8 : Int) ≤ (ss.length : Int) := by omega
                          have hfew9 : ss.length + 1 ≤ 8 := by omega
                          have hbnb : b < nb := by have := HL.out.rd.lt; have := HNB.out; omega
                          have hnbw : w3.heap.size ≤ nb := by have := HNB.out; omega
                          have hbn' : ¬ nb = b := by omega
                          have hnlt := ltIn HX.out.node
                          have y1 := freeIn HX.out.node 1
                          have h63 : ss.length + 1 ≤ maxLen := by unfold maxLen; omega
                          have HNO : Hid (some nb ≠ (Value.slice so ss.length sc).ownBlock) := Lib.hid fun hx => by
                            have := (HX.out.own.own.lt nb hx.symm).1; omega
                          clear h8
                          go_wp2_with fail
                          refine (ok_is true _ b s p' good v HX.out.rd rfl).mono ?_
                          rintro e w5 ⟨rfl, hw5⟩
                          rw [hw5]
                          clear hw5
                          have HC := Lib.hid (rsel_gen wr.drew b s p' good v HX.out.rd (fun _ => rfl))
                          go_upto_region 20 with fail
                          go_cut [] (fun wx => ∃ (ps : PSel) (sv2 : Value) (us2 : List Value) (f4 : Flt) (p4 : Nat), Hid (RXLp w3 wx b nb s md p v sv2 (ss ++ [ps]) us2 f4 p4) ∧ Hid (Mid good RS0 f4 (kComma m ss (ps, s.drop p4, p4))) ∧ (f4.err = 0 → p' < p4))
                          case' first => go_region_law
                            (first
                              | (go_simp; go_at_call 41; go_loud (refine HC.out.mono ?_; rintro e w4 ⟨pv, ps, f4, p4, rfl, hk4, hr4, hg4, hpv, hfp4, hs4⟩; obtain ⟨va, vc, rfl⟩ : ∃ a c, pv = .slice a ps.length c := (by obtain ⟨tvs, h1, ⟨a, cap, h2, _⟩, _⟩ := hpv; exact ⟨a, cap, by simpa [h1] using h2⟩); have how4 := (HX.out.own.kept (w' := w4) parts_lasts (by omega) (((Kept.refl (· = b) _).drew).trans hk4)).own; have hz4 : wr.heap.size ≤ w4.heap.size := hk4.size; have x4 : w4.cell? ⟨nb, 1, none⟩ = some (.slice so ss.length sc) := hk4.cell (a := wr.drew) hbn' n1; have y4 : w4.frozen? ⟨nb, 1, none⟩ = false := hk4.frozen (a := wr.drew) hbn' hnlt y1; have x4a : ∀ o, (w4.alloc o).cell? ⟨nb, 1, none⟩ = some (.slice so ss.length sc) := fun o => cell_alloc x4 o; have y4a : ∀ o, (w4.alloc o).frozen? ⟨nb, 1, none⟩ = false := fun o => frozen_alloc' (by show nb < _; omega) y4 o))
                              | (refine step_append_lies _ (by rfl) _ _ _ (by rfl) (nb + 1) 59 j0 _ 1 24 Try.underlying40 hj0 hy0 hy1 hy2 rfl (by omega) (.slice so ss.length sc) ss.length _ (by rfl) (how4.alloc _) ⟨w4.heap.size, 0, none⟩ 1 1 [.slice va ps.length vc] (by rfl) (by rfl) (World.news_of_block (cs := #[.slice va ps.length vc]) (t := 59) (fr := (0, 0)) (heap_alloc_new w4 _)) (by simp [Value.oneCell']) (by omega) h63 (by omega) (by simp; omega) (w4.heap.size + 1) (by simp) ?_; intro gg cap w5 hown5 hgrow hat hlt5; have x5 : w5.cell? ⟨nb, 1, none⟩ = some (.slice so ss.length sc) := (hgrow.cell_far _ (by simp; omega) HNO.out).trans (x4a _); have y5 : w5.frozen? ⟨nb, 1, none⟩ = false := (hgrow.frozen_far _ (by simp; omega) HNO.out).trans (y4a _)))
                          case rest =>
                            obtain ⟨ps, sv2, us2, f4, p4, HX4, HM4c, hlt4⟩ := hcut
                            obtain ⟨w4, hw4⟩ : ∃ x, x = wc := ⟨_, rfl⟩
                            subst hw4
                            go_wp2_with fail
                            refine (eat_gen [44] _ b s p4 f4 v HX4.out.rd (by decide) (by simp)).mono ?_
                            rintro e w5 ⟨x5, rfl, hk5, p5, h5, hx1, hx2⟩
                            have HX5 := Lib.hid (HX4.out.step hbnb hk5 h5 HX4.out.al)
                            clear hk5 h5 n1 y1 x1
                            cases x5 with
                            | false =>
                              obtain ⟨rfl, hm1⟩ := hx2 rfl
                              have HM5 : Hid (Mid good RS0 f4 (.ok (ss ++ [ps], s.drop p5, p5))) := Lib.hid (HM4c.out.eq (fun hh => by
                                show kComma m ss (ps, s.drop p5, p5) = _
                                unfold kComma; rw [if_neg (by simp [hm1 hh])]))
                              clear hx1 hx2 hm1
                              go_wp2_with fail
                              go_meet
                              case rel => exact ⟨_, ss ++ [ps], us2, f4, p5, HX5, HM5⟩
                            | true =>
                              obtain ⟨hf4, hm1, rfl⟩ := hx1 rfl
                              obtain rfl := HX4.out.al hf4
                              have hlt4' := hlt4 hf4
                              have HM5 : Hid (Mid good RS0 good ((sGap (s.drop (p4 + 1)) (p4 + 1)).then fun y => sSelsL m (ss ++ [ps]) y.1 y.2)) := Lib.hid (HM4c.out.eq (fun _ => by
                                show kComma m ss (ps, s.drop p4, p4) = _
                                unfold kComma; rw [if_pos hm1, List.drop_drop]))
                              clear hx1 hx2 hm1 hlt4 hf4
                              go_wp2_with fail
                              refine (rblank_gen _ b s (p4 + 1) good v HX5.out.rd (fun _ => rfl)).mono ?_
                              rintro e w6 ⟨f6, p6, rfl, hk6, h6, hg6, hs6⟩
                              have HM6 : Hid (Mid good RS0 f6 (sSelsL m (ss ++ [ps]) (s.drop p6) p6)) := Lib.hid (HM5.out.step (k := fun y => sSelsL m (ss ++ [ps]) y.1 y.2) hs6.out)
                              have HX6 := Lib.hid (HX5.out.step hbnb hk6 h6 hg6)
                              have hp6 : f6.err = 0 → p4 + 1 ≤ p6 := fun hh => gap_low hs6.out hh
                              have hl6 := h6.2.1
                              clear hk6 h6 hg6 hs6
                              go_wp2_with fail
                              by_cases hf6 : f6.err = 0
                              · have hp6' := hp6 hf6
                                go_roundg (s.length - p6 + 1)
                                case measure => omega
                                case rel => exact ⟨_, ss ++ [ps], us2, f6, p6, m, HX6, HM6, fun _ => ⟨by omega, rfl⟩⟩
                              · go_roundg 0
                                case measure => omega
                                case rel => exact ⟨_, ss ++ [ps], us2, f6, p6, m, HX6, HM6, fun hh => absurd hh hf6⟩
                          all_goals
                            go_wp2_with fail
                            go_meet
                            case rel =>
                              obtain ⟨q1, q2, q3, q4⟩ := rsel_push HX.out.node HX.out.own hbnb HX.out.kept hnbw (((Kept.refl (· = b) wr).drew).trans hk4) hr4 hpv hown5 hgrow hat
                              exact ⟨ps, _, _, f4, p4, Lib.hid ⟨q1, q2, q3, by simp; omega, q4, hg4⟩, Lib.hid (HMS2.out.step (k := kComma m ss) hs4.out), fun hh => by
                                rcases hs4.out.2 rfl with ⟨_, h⟩ | ⟨h, _⟩
                                · exact sel_loc.2 _ _ _ _ _ h
                                · exact absurd hh h⟩
                      · have hf' : ((f.err : Int) == 0) = false := by simp; omega
                        go_wp2_with fail
                        refine (ok_is false _ b s p' f v HX.out.rd hf').mono ?_
                        rintro e w5 ⟨rfl, hw5⟩
                        rw [hw5]
                        clear hw5
                        go_wp2_with fail
                        go_meet
                        case rel => exact ⟨_, ss, us, f, p', HX, Lib.hid (HMX.out.dead hf)⟩
                  case rest =>
                    obtain ⟨sv, ss, us, f5, p5, HX5, HMS5⟩ := hcut
                    obtain ⟨w5, hw5⟩ : ∃ x, x = wc := ⟨_, rfl⟩
                    subst hw5
                    obtain ⟨so, sc, rfl⟩ := HX5.out.own.form
                    have hbnb : b < nb := by have := HL.out.rd.lt; have := HNB.out; omega
                    have hnbw : w3.heap.size ≤ nb := by have := HNB.out; omega
                    have hnbe : nb ≤ w3.heap.size := by have := HNB.out; omega
                    have HM5 : Hid (Mid good RU f5 ((pMust [123] (s.drop p5) p5).then fun y => (sDecls y.1 y.2).then (kClose md p ss))) := Lib.hid (HMU.out.step (k := kBrace md p) (Mid.fin HMS5.out))
                    clear HMS5 HMU HMS
                    go_wp2_with fail
                    refine (need_gen [123] _ b s p5 f5 v HX5.out.rd HX5.out.al (by decide) (by simp)).mono ?_
                    rintro e w6 ⟨rfl, hk6, f6, p6, h6, hg6, hs6⟩
                    have HM6 : Hid (Mid good RU f6 ((sDecls (s.drop p6) p6).then (kClose md p ss))) := Lib.hid (HM5.out.step (k := fun y => (sDecls y.1 y.2).then (kClose md p ss)) hs6.out)
                    have HX6 := Lib.hid (HX5.out.step hbnb hk6 h6 hg6)
                    clear hk6 h6 hg6 hs6 HM5 HX5
                    have x1 := HX6.out.rd.c1
                    obtain ⟨xb, HXB⟩ : ∃ q, Hid (((f6.err : Int) == 0) = q) := ⟨_, Lib.hid rfl⟩
                    go_wp2_with fail
                    refine (ok_is xb _ b s p6 f6 v HX6.out.rd HXB.out).mono ?_
                    rintro e w7 ⟨rfl, hw7⟩
                    rw [hw7]
                    clear hw7
                    go_upto_if 108 with fail
                    go_cut [] (fun wx => ∃ (do_ : Option Addr) (dc : Nat) (ds : List PDecl) (f : Flt) (p7 : Nat), Hid (RYLp w3 wx b nb s md p v (.slice so ss.length sc) (.slice do_ ds.length dc) ss ds f p7) ∧ Hid (Mid good RU f (kClose md p ss (ds, s.drop p7, p7))))
                    case first =>
                      cases xb with
                      | true =>
                        have n2 := cellIn HX6.out.node 2 rfl
                        have y2 := freeIn HX6.out.node 2
                        go_wp2_with fail
                        refine (rdecls_gen _ b s p6 f6 v HX6.out.rd HX6.out.al).mono ?_
                        rintro e w8 ⟨l8, ds8, f8, p8, rfl, hk8, h8, hg8, hown8, hfew8, hs8⟩
                        have HM8 : Hid (Mid good RU f8 (kClose md p ss (ds8, s.drop p8, p8))) := Lib.hid (HM6.out.step (k := kClose md p ss) hs8.out)
                        obtain ⟨do8, dc8, rfl⟩ := decl_slice hown8
                        have hn8 := hk8.heap (by show ¬ nb = b; omega) HX6.out.node
                        have hnl := ltIn HX6.out.node
                        have HY8 : Hid (RYLp w3 (w8.setCell ⟨nb, 2, none⟩ (.slice do8 ds8.length dc8)) b nb s md p v (.slice so ss.length sc) (.slice do8 ds8.length dc8) ss ds8 f8 p8) := Lib.hid (by
                          have hks : Kept (· = nb) w8 (w8.setCell ⟨nb, 2, none⟩ (.slice do8 ds8.length dc8)) := (Kept.refl (· = nb) _).setCell (p := ⟨nb, 2, none⟩) (.inl rfl) _
                          have hkk : Kept (fun k => k = b ∨ k = nb) w6 (w8.setCell ⟨nb, 2, none⟩ (.slice do8 ds8.length dc8)) := (hk8.mono (fun k _ h => .inl h)).trans (hks.mono (fun k _ h => .inr h))
                          refine ⟨h8.kept hks (by omega), ?_, sels_lasts _ _ _ _ _ _ _ (HX6.out.own.done selCells_len parts_lasts) hkk (fun k _ hs => by show k < nb + 1; omega) (fun k _ hx => hx), ?_, (HX6.out.kept.trans hk8).setCell (p := ⟨nb, 2, none⟩) (.inr hnbw) _, hg8⟩
                          · have := setIn hn8 2 (.slice do8 ds8.length dc8)
                            simpa using this
                          · exact ⟨(rowsAt_of_owns decl_rows (by simp) hown8).kept hks (fun k hk hs => by have := (hown8.lt k hk).1; omega), fun k hk => ⟨fun hx => by have := (hown8.lt k hk).1; omega, Nat.lt_of_lt_of_le (hown8.lt k hk).2 hks.size⟩⟩)
                        have m2 := cellIn hn8 2 rfl
                        have mf2 := freeIn hn8 2
                        clear hk8 h8 hg8 hown8 hs8 hn8 n2 y2
                        go_wp2_with fail
                        go_meet
                        case rel => exact ⟨do8, dc8, ds8, f8, p8, HY8, HM8⟩
                      | false =>
                        have hf6 : ¬ f6.err = 0 := by have := HXB.out; simp at this; omega
                        have HY8 : Hid (RYLp w3 w6 b nb s md p v (.slice so ss.length sc) (.slice none 0 0) ss [] f6 p6) := Lib.hid ⟨HX6.out.rd, HX6.out.node, HX6.out.own.done selCells_len parts_lasts, ⟨RowsAt.nil _ _, fun k hk => by cases hk⟩, HX6.out.kept, HX6.out.al⟩
                        go_wp2_with fail
                        go_meet
                        case rel => exact ⟨none, 0, [], f6, p6, HY8, Lib.hid (HM6.out.dead hf6)⟩
                    case rest =>
                      obtain ⟨da, dc, ds, f8, p8, HY8, HM8⟩ := hcut
                      obtain ⟨w8, hw8⟩ : ∃ x, x = wc := ⟨_, rfl⟩
                      subst hw8
                      clear HX6 HM6 x1
                      have HM8' : Hid (Mid good RU f8 ((pMust [125] (s.drop p8) p8).then fun u => Ans.ok ((⟨md, ss, ds, (p : Int), (u.2 : Int)⟩ : PRule), u.1, u.2))) := Lib.hid HM8.out
                      go_wp2_with fail
                      refine (need_gen [125] _ b s p8 f8 v HY8.out.rd HY8.out.al (by decide) (by simp)).mono ?_
                      rintro e w9 ⟨rfl, hk9, f9, p9, h9, hg9, hs9⟩
                      have HSU : Hid (Step good RU f9 ((⟨md, ss, ds, (p : Int), (p9 : Int)⟩ : PRule), s.drop p9, p9)) := Lib.hid (Mid.fin (HM8'.out.step (k := fun u => Ans.ok ((⟨md, ss, ds, (p : Int), (u.2 : Int)⟩ : PRule), u.1, u.2)) hs9.out))
                      have HY9 := Lib.hid (HY8.out.step hbnb hk9 h9 hg9)
                      have HM9 : Hid (Mid good R f9 (rulesFrom n md (rs ++ [⟨md, ss, ds, (p : Int), (p9 : Int)⟩]) (s.drop p9) p9)) := Lib.hid (HM4.out.step (k := fun x => rulesFrom n md (rs ++ [x.1]) x.2.1 x.2.2) HSU.out)
                      have HP9 : Hid (f9.err = 0 → p < p9) := Lib.hid (fun hh => by
                        rcases HSU.out.2 rfl with ⟨_, h⟩ | ⟨h, _⟩
                        · rw [← HRU.out] at h
                          obtain ⟨t, h1, h2, _, _, _, h3, _⟩ := rule_loc h
                          omega
                        · exact absurd hh h)
                      clear hk9 h9 hg9 hs9 HM8 HM8' HY8 HM4 HSU
                      have x1 := HY9.out.rd.c1
                      have m4 := cellIn HY9.out.node 4 rfl
                      have mf4 := freeIn HY9.out.node 4
                      go_upto_region 28 with fail
                      obtain ⟨wu, HWU⟩ : ∃ x, Hid (w9.setCell ⟨nb, 4, none⟩ (.int .i64 (p9 : Int)) = x) := ⟨_, Lib.hid rfl⟩
                      have hks : Kept (· = nb) w9 wu := by rw [← HWU.out]; exact (Kept.refl (· = nb) _).setCell (p := ⟨nb, 4, none⟩) (.inl rfl) _
                      have hnu : wu.heap[nb]? = some (.cells #[.string (str md), .slice so ss.length sc, .slice da ds.length dc, .int .i64 (p : Int), .int .i64 (p9 : Int)] 42 (0, 0)) := by
                        rw [← HWU.out]
                        have := setIn HY9.out.node 4 (.int .i64 (p9 : Int))
                        simpa using this
                      have HRD : Hid (WkAt wu b s p9 f9 v) := Lib.hid (HY9.out.rd.kept hks (by omega))
                      have HSN : Hid (SelsIn wu (fun k => k < w3.heap.size) (.slice so ss.length sc) ss) := Lib.hid (sels_lasts _ _ _ _ _ _ _ HY9.out.sels hks (fun k _ hs => by have : k = nb := hs; show k < nb + 1; omega) (fun k _ hx => by have hx' : k < w3.heap.size := hx; show k < nb + 1; omega))
                      have HDN : Hid (DeclsIn wu (fun k => k < w3.heap.size) (.slice da ds.length dc) ds) := Lib.hid (decls_lasts _ _ _ _ _ _ _ HY9.out.decls hks (fun k _ hs => by have : k = nb := hs; show k < nb + 1; omega) (fun k _ hx => by have hx' : k < w3.heap.size := hx; show k < nb + 1; omega))
                      have HKU : Hid (Kept (· = b) w3 wu) := Lib.hid (by rw [← HWU.out]; exact HY9.out.kept.setCell (p := ⟨nb, 4, none⟩) (.inr hnbw) _)
                      have HAL := Lib.hid HY9.out.al
                      have how := (HL.out.own.kept rule_lasts hbb HKU.out).own
                      have hbs3 : base ≤ w3.heap.size := by have := HL.out.kept.size; omega
                      have hzu : w3.heap.size ≤ wu.heap.size := HKU.out.size
                      have n0 := cellIn hnu 0 rfl
                      have n1 := cellIn hnu 1 rfl
                      have n2 := cellIn hnu 2 rfl
                      have n3 := cellIn hnu 3 rfl
                      have n4 := cellIn hnu 4 rfl
                      clear HY9 x1 m4 mf4 hks hnu
                      rw [HWU.out]
                      clear HWU
                      go_wp2_with (at_builtin; refine wpList_append_lies _ rfl _ _ _ rfl base 42 i0 _ 5 80 Try.underlying23 hi0 hz0 hz1 hz2 rfl (by omega) _ rs.length _ (by rfl) (how.alloc _) ⟨wu.heap.size, 0, none⟩ 1 1 (ruleCells ⟨md, ss, ds, (p : Int), (p9 : Int)⟩ (.tuple #[.slice so ss.length sc, .slice da ds.length dc])) (by rfl) (by rfl) (World.news_of_block (cs := (ruleCells ⟨md, ss, ds, (p : Int), (p9 : Int)⟩ (.tuple #[.slice so ss.length sc, .slice da ds.length dc])).toArray) (t := 42) (fr := (0, 0)) (heap_alloc_new wu _)) (by simp [ruleCells, vFst, vSnd, Value.oneCell']) (by omega) (by unfold maxLen; omega) (by omega) (by simp; omega) (wu.heap.size + 1) (by simp) ?_; intro gg cap w10 hown10 hgrow10 hat10 hlt10)
                      have HL10 := Lib.hid (rrule_push HL.out hbb hbs3 HKU.out HRD.out HAL.out hfew1 HSN.out HDN.out hown10 hgrow10 hat10)
                      clear hown10 hgrow10 hat10 how n0 n1 n2 n3 n4
                      refine (rblank_gen _ b s p9 f9 v HL10.out.rd HL10.out.al).mono ?_
                      rintro e w11 ⟨f11, p11, rfl, hk11, h11, hg11, hs11⟩
                      have HM11 : Hid (Mid good R f11 (sRulesL n md (rs ++ [⟨md, ss, ds, (p : Int), (p9 : Int)⟩]) (s.drop p11) p11)) := Lib.hid (Mid.step (k := fun y => sRulesL n md (rs ++ [⟨md, ss, ds, (p : Int), (p9 : Int)⟩]) y.1 y.2) (HM9.out.eq (fun _ => rfl)) hs11.out)
                      have HL11 := Lib.hid (HL10.out.step hbb hk11 h11 hg11)
                      have hp11 : f11.err = 0 → f9.err = 0 ∧ p9 ≤ p11 := fun hh => by
                        by_cases h : f9.err = 0
                        · obtain rfl := HL10.out.al h
                          exact ⟨rfl, gap_low hs11.out hh⟩
                        · rw [hs11.out.1 h] at hh; exact absurd hh h
                      have hl11 := h11.2.1
                      clear hk11 h11 hg11 hs11 HM9
                      go_wp2_with fail
                      by_cases hf11 : f11.err = 0
                      · obtain ⟨h1, h2⟩ := hp11 hf11
                        have h3 := HP9.out h1
                        go_roundg (s.length - p11 + 1)
                        case measure => omega
                        case rel => exact ⟨_, _, f11, p11, n, HL11, HM11, fun _ => ⟨by omega, rfl⟩⟩
                      · go_roundg 0
                        case measure => omega
                        case rel => exact ⟨_, _, f11, p11, n, HL11, HM11, fun hh => absurd hh hf11⟩
        · have hne : (s.drop p).isEmpty = true := by rw [List.drop_eq_nil_of_le (by omega)]; rfl
          have HX : Hid (Mid good R good (.ok (rs, s.drop p, p))) := Lib.hid (HM.out.eq (fun _ => rulesL_end (by rw [hne]; rfl)))
          have hge : ¬ (p : Int) < (s.length : Int) := by omega
          clear hne
          go_wp2_with fail
          go_quiet (first | (go_at_call 23; exact Calls.quiet_of_same (ok_is true _ b s p good v HL.out.rd rfl)) | fail)
          go_wp2_with fail
          go_meet
          case rel => exact ⟨rs, vs, good, p, Lib.hid (HL.out.step hbb ((Kept.refl _ _).drewN _) (HL.out.rd.drewN _) (fun _ => rfl)), HX⟩
      · have hf' : ((f.err : Int) == 0) = false := by simp; omega
        go_wp2_with fail
        go_quiet (first | (go_at_call 23; exact Calls.quiet_of_same (ok_is false _ b s p f v HL.out.rd hf')) | fail)
        go_wp2_with fail
        go_meet
        case rel => exact ⟨rs, vs, f, p, Lib.hid (HL.out.step hbb ((Kept.refl _ _).drewN _) (HL.out.rd.drewN _) HL.out.al), Lib.hid (HM.out.dead hf)⟩
end Go.Proofs.Ytplbdlgmjehckab
