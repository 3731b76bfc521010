/-
  The document's answer: declarations.
-/
import Derived.Test.YtplbdlgmjehckabRfMid
import Derived.Deep.AppendLies
namespace Go.Proofs.Ytplbdlgmjehckab
open Go.RowKit
set_option linter.unusedVariables false
set_option linter.unusedSimpArgs false

theorem info_decl' : (Try.prog.info? 62).map (fun i => (i.zero, i.size, i.bytes)) = some (some (.agg #[.string ⟨#[]⟩, .string ⟨#[]⟩, .bool false]), 3, 40) := by kernel_rfl
theorem decl_slice {w : World} {base t n : Nat} {av : Value} {xs : List Value} (h : w.ownsRow base t 3 av n xs) : ∃ ao ac, av = .slice ao n ac := by
  rcases h.2 with ⟨rfl, hn⟩ | ⟨g, cap, cur, rfl, _⟩
  · exact ⟨none, 0, by rw [hn]⟩
  · exact ⟨_, cap, rfl⟩
/-- what stands at the head of the loop over declarations -/
structure RDLoop (w wr : World) (b : Nat) (s : B) (v : Value) (f0 : Flt) (R : Ans (List PDecl × B × Nat)) (X : Ans (List PDecl × B × Nat)) (l : Value) (ds : List PDecl) (f : Flt) (p : Nat) : Prop where
  rd : WkAt wr b s p f v
  kept : Kept (· = b) w wr
  al : f.err = 0 → f = good
  own : wr.ownsRow w.heap.size 62 3 l ds.length (ds.map declCells).flatten
  few : ds.length ≤ 20
  mid : Hid (Mid f0 R f X)

section
variable {w wr wx : World} {b : Nat} {s : B} {v : Value} {f0 f : Flt} {R X Y : Ans (List PDecl × B × Nat)} {l : Value} {ds : List PDecl} {p : Nat}
theorem RDLoop.quiet (h : RDLoop w wr b s v f0 R X l ds f p) (hq : Qt wr wx) : RDLoop w wx b s v f0 R X l ds f p :=
  ⟨h.rd.quiet hq, h.kept.trans (hq.kept _), h.al, owns_kept h.own (hq.kept (fun _ => False)) (fun _ _ => id), h.few, h.mid⟩
theorem RDLoop.turn (h : RDLoop w wr b s v f0 R X l ds f p) (hm : Mid f0 R f Y) : RDLoop w wr b s v f0 R Y l ds f p := ⟨h.rd, h.kept, h.al, h.own, h.few, Lib.hid hm⟩
end
def dRest4 (nm : B) (x : B × B × Nat) : Ans (PDecl × B × Nat) := (sStrong x.2.1 x.2.2).then fun y => .ok (⟨nm, x.1, y.1⟩, y.2.1, y.2.2)
def dRest3 (nm : B) (x : B × Nat) : Ans (PDecl × B × Nat) := (sVal x.1 x.2).then (dRest4 nm)
def dRest2 (nm : B) (x : B × Nat) : Ans (PDecl × B × Nat) := (sGap x.1 x.2).then (dRest3 nm)
def dRest1 (nm : B) (x : B × Nat) : Ans (PDecl × B × Nat) := (pMust [58] x.1 x.2).then (dRest2 nm)
theorem sDecl_eq (l : B) (a : Nat) : sDecl l a = (sName l a).then fun x => (sGap x.2.1 x.2.2).then (dRest1 x.1) := rfl
def dKeep (n : Nat) (ds : List PDecl) (x : PDecl × B × Nat) : Ans (List PDecl × B × Nat) := if [59].isPrefixOf x.2.1 then (sGap (x.2.1.drop 1) (x.2.2 + 1)).then fun y => sDeclsL n (ds ++ [x.1]) y.1 y.2 else .ok (ds ++ [x.1], x.2.1, x.2.2)

set_option maxRecDepth 100000 in
set_option maxHeartbeats 12800000 in
theorem rdecls_gen (w : World) (b : Nat) (s : B) (a : Nat) (f0 : Flt) (v : Value) (h : WkAt w b s a f0 v) (hg : f0.err = 0 → f0 = good) :
    Calls Try.prog 28 #[.pointer (some ⟨b, 0, none⟩)] w fun e w' => ∃ (l : Value) (ds : List PDecl) (f' : Flt) (a' : Nat), e = .returned l ∧ Kept (· = b) w w' ∧ WkAt w' b s a' f' v ∧ (f'.err = 0 → f' = good) ∧
      w'.ownsRow w.heap.size 62 3 l ds.length (ds.map declCells).flatten ∧ ds.length ≤ 20 ∧ Hid (Step f0 (sDecls (s.drop a) a) f' (ds, s.drop a', a')) := by
  obtain ⟨R, HR⟩ : ∃ R, Hid (sDecls (s.drop a) a = R) := ⟨_, rfl⟩
  rw [HR.out]
  have H := Lib.hid h
  have hbw : b < w.heap.size := h.lt
  have hls := h.2.2
  clear h
  go_enter Try.func28, Try.ntmps28
  go_wp2_with fail
  refine (rblank_gen _ b s a f0 v H.out hg).mono ?_
  rintro e w1 ⟨f1, p1, rfl, hk1, h1, hg1, hs1⟩
  have hst : RDLoop w w1 b s v f0 R (sDeclsL ((s.drop p1).length + 1) [] (s.drop p1) p1) (.slice none 0 0) [] f1 p1 :=
    ⟨h1, hk1, hg1, World.ownsRow_nil _ _ _ _, by simp, Lib.hid (by
      have := Mid.start (sDecls (s.drop a) a) f0
      rw [HR.out] at this
      have h2 : Mid f0 R f0 ((sGap (s.drop a) a).then fun x => sDeclsL (x.1.length + 1) [] x.1 x.2) := by
        refine this.eq fun _ => ?_
        rw [← HR.out]; rfl
      exact h2.step (k := fun x => sDeclsL (x.1.length + 1) [] x.1 x.2) hs1.out)⟩
  have HST := Lib.hid hst
  clear hst hk1 h1 hs1 hg1
  go_upto_block 0 with fail
  go_cut [3] (fun l wx => ∃ ds f p, Hid (RDLoop w wx b s v f0 R (.ok (ds, s.drop p, p)) l ds f p))
  case rest => as_aux_lemma =>
    obtain ⟨ds, f, p, HL⟩ := hcut
    go_wp2_with fail
    go_ret
    exact ⟨_, ds, f, p, rfl, HL.out.kept, HL.out.rd, HL.out.al, HL.out.own, HL.out.few, Lib.hid HL.out.mid.out.fin⟩
  case first => as_aux_lemma =>
    go_wp2_with fail
    go_loopg [3] (s.length - p1 + 1) (fun k l wr => ∃ ds f p n, Hid (RDLoop w wr b s v f0 R (sDeclsL n ds (s.drop p) p) l ds f p) ∧ (f.err = 0 → s.length - p < n ∧ k = s.length - p + 1))
    case atStart => exact ⟨[], f1, p1, _, HST, fun hf => ⟨by rw [List.length_drop]; omega, rfl⟩⟩
    case round =>
      obtain ⟨ds, f, p, n, HL, hal⟩ := hrel
      have c0 := HL.out.rd.c0
      have c1 := HL.out.rd.c1
      have hlp := HL.out.rd.2.1
      obtain ⟨lo, lc, hlv⟩ := decl_slice HL.out.own
      subst hlv
      by_cases hf : f.err = 0
      · obtain rfl := HL.out.al hf
        obtain ⟨hn, hk⟩ := hal rfl
        clear hal hf
        obtain ⟨n, rfl⟩ : ∃ m, n = m + 1 := ⟨n - 1, by omega⟩
        by_cases hlt : p < s.length
        · have hne : (s.drop p).isEmpty = false := by
            cases hx : s.drop p with
            | nil => have := congrArg List.length hx; rw [List.length_drop] at this; simp at this; omega
            | cons a t => rfl
          cases hm1 : ([125] : B).isPrefixOf (s.drop p) with
          | true =>
            have hX := declsL_end (n := n) (ds := ds) (l := s.drop p) (a := p) (by rw [hne, hm1]; rfl)
            have HX := Lib.hid (HL.out.mid.out.eq (fun _ => hX))
            have HM1 := Lib.hid hm1
            clear hX hm1
            go_wp2_with fail
            go_quiet (first | (go_at_call 23; exact Calls.quiet_of_same (ok_is true _ b s p good v HL.out.rd rfl)) | (go_at_call 37; exact Calls.quiet_of (on_good [125] true _ b s p good v HL.out.rd rfl (by decide) HM1.out)))
            go_wp2_with fail
            go_meet
            case rel => exact ⟨ds, good, p, Lib.hid ((HL.out.turn HX.out).quiet ⟨_, rfl⟩)⟩
          | false =>
            have HM1 := Lib.hid hm1
            have hcond : ((s.drop p).isEmpty || ([125] : B).isPrefixOf (s.drop p)) = false := by rw [hne, hm1]; rfl
            have HCO := Lib.hid hcond
            clear hm1 hcond
            by_cases h20 : ds.length = 20
            · have HX : Hid (sDeclsL (n + 1) ds (s.drop p) p = .bad ⟨5, p⟩) := Lib.hid (declsL_many HCO.out h20)
              have h20I : (20 : Int) ≤ (ds.length : Int) := by omega
              clear h20
              go_wp2_with fail
              go_quiet (first | (go_at_call 23; exact Calls.quiet_of_same (ok_is true _ b s p good v HL.out.rd rfl)) | (go_at_call 37; exact Calls.quiet_of (on_good [125] false _ b s p good v HL.out.rd rfl (by decide) HM1.out)))
              have HL2 := Lib.hid (HL.out.quiet (wx := wr.drewN nq) ⟨_, rfl⟩)
              revert HL2
              generalize wr.drewN nq = w2
              intro HL2
              clear c0 c1
              have c1 := HL2.out.rd.c1
              go_wp2_with fail
              refine (stop_good 5 p _ b s p good v HL2.out.rd rfl).mono ?_
              rintro e w3 ⟨rfl, hk3, h3⟩
              have HK3 := Lib.hid hk3
              have H3 := Lib.hid h3
              clear hk3 h3
              go_wp2_with fail
              go_meet
              case rel => exact ⟨ds, ⟨5, p⟩, p, Lib.hid ⟨H3.out, HL2.out.kept.trans HK3.out, fun hh => absurd hh (by simp), owns_kept HL2.out.own HK3.out (fun k hk hs => by have := (HL2.out.own.lt k hk).1; omega), HL2.out.few, Lib.hid (HL2.out.mid.out.kill rfl HX.out (by simp))⟩⟩
            · have HX : Hid (sDeclsL (n + 1) ds (s.drop p) p = (sDecl (s.drop p) p).then (dKeep n ds)) := Lib.hid (declsL_more HCO.out h20)
              have hfew := HL.out.few
              have h20I : ¬ (20 : Int) ≤ (ds.length : Int) := by omega
              go_wp2_with fail
              go_quiet (first | (go_at_call 23; exact Calls.quiet_of_same (ok_is true _ b s p good v HL.out.rd rfl)) | (go_at_call 37; exact Calls.quiet_of (on_good [125] false _ b s p good v HL.out.rd rfl (by decide) HM1.out)))
              have HL2 := Lib.hid (HL.out.quiet (wx := wr.drewN nq) ⟨_, rfl⟩)
              revert HL2
              generalize wr.drewN nq = w2
              intro HL2
              clear c0 c1 HM1
              go_wp2_with fail
              refine (sname_gen _ b s p good v HL2.out.rd (fun _ => rfl)).mono ?_
              rintro e w3 ⟨nm, rfl, hk3, f3, p3, h3, hg3, hnl3, hs3⟩
              obtain ⟨D, HD⟩ : ∃ D, Hid (sDecl (s.drop p) p = D) := ⟨_, rfl⟩
              have M3 : Hid (Mid good D f3 _) := Lib.hid (Mid.step (k := fun x => (sGap x.2.1 x.2.2).then (dRest1 x.1)) (by
                have := Mid.start (sDecl (s.drop p) p) good
                rw [HD.out] at this
                exact this.eq (fun _ => by rw [← HD.out]; rfl)) hs3.out)
              obtain ⟨db, HDB⟩ : ∃ x, Hid (w3.heap.size = x) := ⟨_, rfl⟩
              obtain ⟨w4, HW4⟩ : ∃ x, Hid (w3.alloc (.cells #[.string (str nm), .string ⟨#[]⟩, .bool false] 62 (0, 0)) = x) := ⟨_, rfl⟩
              have hbox : DBox w2 w4 b db s v nm [] false f3 p3 := by
                rw [← HW4.out, ← HDB.out]
                exact ⟨h3.alloc _, newIn w3 _, hk3.alloc _, fun hh => (hg3 hh).1, hk3.size, h3.lt⟩
              have HB4 := Lib.hid hbox
              clear hk3 h3 hs3 hbox hg3
              go_upto_region 7 with fail
              rw [HW4.out, HDB.out]
              clear HW4 HDB
              go_wp2_with fail
              refine (rblank_gen _ b s p3 f3 v HB4.out.rd HB4.out.al).mono ?_
              rintro e w5 ⟨f5, p5, rfl, hk5, h5, hg5, hs5⟩
              have HB5 := Lib.hid (HB4.out.step hk5 h5 hg5)
              have M5 := Lib.hid (M3.out.step (k := dRest1 nm) hs5.out)
              clear hk5 h5 hg5 hs5 HB4 M3
              go_wp2_with fail
              refine (need_gen [58] _ b s p5 f5 v HB5.out.rd HB5.out.al (by decide) (by simp)).mono ?_
              rintro e w6 ⟨rfl, hk6, f6, p6, h6, hg6, hs6⟩
              have HB6 := Lib.hid (HB5.out.step hk6 h6 hg6)
              have M6 := Lib.hid (M5.out.step (k := dRest2 nm) hs6.out)
              clear hk6 h6 hg6 hs6 HB5 M5
              go_wp2_with fail
              refine (rblank_gen _ b s p6 f6 v HB6.out.rd HB6.out.al).mono ?_
              rintro e w7 ⟨f7, p7, rfl, hk7, h7, hg7, hs7⟩
              have HB7 := Lib.hid (HB6.out.step hk7 h7 hg7)
              have M7 := Lib.hid (M6.out.step (k := dRest3 nm) hs7.out)
              clear hk7 h7 hg7 hs7 HB6 M6
              obtain ⟨V, HV⟩ : ∃ V, Hid (sVal (s.drop p7) p7 = V) := ⟨_, rfl⟩
              go_upto_block 2 with fail
              go_cut [] (fun wx => ∃ f vl p ws, Hid (DBox w2 wx b db s v nm vl false f p) ∧ vl.length ≤ 6100 ∧ Hid (Mid f7 V f (if ws = ([] : List B) then .bad ⟨2, p⟩ else .ok (vl, s.drop p, p))) ∧ (f.err = 0 → (vl = [] ↔ ws = [])))
              case first => as_aux_lemma =>
                go_wp2_with fail
                go_loopg [] (s.length - p7 + 1) (fun k wx => ∃ f vl p ws n, Hid (DBox w2 wx b db s v nm vl false f p) ∧ vl.length ≤ 6100 ∧ Hid (Mid f7 V f (sValL n ws (s.drop p) p)) ∧ (f.err = 0 → s.length - p < n ∧ k = s.length - p + 1 ∧ vl = joinW ws ∧ vl.length ≤ 60 ∧ (vl = [] ↔ ws = [])))
                case atStart => exact ⟨f7, [], p7, [], (s.drop p7).length + 1, HB7, by simp, Lib.hid (by
                  have := Mid.start (sVal (s.drop p7) p7) f7
                  rw [HV.out] at this
                  exact this.eq (fun _ => by rw [← HV.out]; rfl)), fun hf => ⟨by rw [List.length_drop]; omega, rfl, rfl, by simp, by simp⟩⟩
                case round =>
                  obtain ⟨f, vl, p, ws, n, HB, hvl, HM, hal⟩ := hrel
                  have c0 := HB.out.rd.c0
                  have c1 := HB.out.rd.c1
                  have hlp := HB.out.rd.2.1
                  by_cases hf : f.err = 0
                  · obtain rfl := HB.out.al hf
                    obtain ⟨hn, hk, hvj, hv60, hvn⟩ := hal rfl
                    clear hal hf
                    obtain ⟨n, rfl⟩ : ∃ m, n = m + 1 := ⟨n - 1, by omega⟩
                    by_cases hlt : p < s.length
                    · have hi0 : (0 : Int) ≤ (p : Int) := by omega
                      have hi1 : (p : Int) < (s.length : Int) := by omega
                      cases hwd : isWord (s[p]'hlt) with
                      | false =>
                        have htk : (s.drop p).takeWhile isWord = [] := by rw [List.drop_eq_getElem_cons hlt, List.takeWhile_cons, hwd]; rfl
                        have HX := Lib.hid (HM.out.eq (fun _ => valL_end (n := n) (ws := ws) (a := p) htk))
                        have HW := Lib.hid hwd
                        clear htk hwd
                        go_wp2_with fail
                        go_quiet (first | (go_at_call 23; exact Calls.quiet_of_same (ok_is true _ b s p good v HB.out.rd rfl)) | (go_at_call 43; exact Calls.quiet_of_same (rword_is _ false _ HW.out)))
                        have HB2 := Lib.hid (HB.out.quiet (wx := wr.drewN nq) ⟨_, rfl⟩)
                        go_wp2_with fail
                        go_meet
                        case rel => exact ⟨good, vl, p, ws, HB2, hvl, Lib.hid (HX.out.eq (fun _ => by rw [hvj])), fun _ => hvn⟩
                      | true =>
                        have HW := Lib.hid hwd
                        clear hwd
                        go_wp2_with fail
                        go_quiet (first | (go_at_call 23; exact Calls.quiet_of_same (ok_is true _ b s p good v HB.out.rd rfl)) | (go_at_call 43; exact Calls.quiet_of_same (rword_is _ true _ HW.out)))
                        have HB2 := Lib.hid (HB.out.quiet (wx := wr.drewN nq) ⟨_, rfl⟩)
                        revert HB2
                        generalize wr.drewN nq = w8
                        intro HB2
                        clear c0 c1
                        have c0 := HB2.out.rd.c0
                        have c1 := HB2.out.rd.c1
                        obtain ⟨nw, HNW⟩ : ∃ x, Hid (((s.drop p).takeWhile isWord).length = x) := ⟨_, rfl⟩
                        have hnw : p + nw ≤ s.length := by
                          have := takeWhile_len_le isWord (s.drop p)
                          have h2 := HNW.out
                          rw [List.length_drop] at this
                          omega
                        have hnw0 : 0 < nw := by
                          have h2 := HNW.out
                          rw [List.drop_eq_getElem_cons hlt, List.takeWhile_cons, HW.out, if_pos rfl] at h2
                          simp at h2; omega
                        have HIN : Hid (∀ j, j < nw → ∃ h : p + j < s.length, isWord (s[p + j]'h) = true) := Lib.hid fun j hj => by
                          have h2 := HNW.out
                          obtain ⟨h3, h4⟩ := takeWhile_in isWord (s.drop p) j (by omega)
                          refine ⟨by rw [List.length_drop] at h3; omega, ?_⟩
                          rw [List.getElem_drop] at h4; exact h4
                        have HOUT : Hid ((h : p + nw < s.length) → isWord (s[p + nw]'h) = false) := Lib.hid fun hlt => by
                          have h2 : ((s.drop p).takeWhile isWord).length = nw := HNW.out
                          have h5 : ((s.drop p).takeWhile isWord).length < (s.drop p).length := by rw [List.length_drop]; omega
                          have h6 := takeWhile_stop isWord (s.drop p) h5
                          rw [List.getElem_drop] at h6
                          have : ∀ k, (hk : k = nw) → (h : p + k < s.length) → isWord (s[p + k]'h) = false → isWord (s[p + nw]'(by omega)) = false := by
                            intro k hk; subst hk; exact fun _ h => h
                          exact this _ h2 _ h6
                        go_upto_block 4 with fail
                        go_cut [5] (fun k wx => wx = w8 ∧ k = .int .i64 ((p + nw : Nat) : Int))
                        case first =>
                          go_wp2_with fail
                          go_loopw [5] (fun k wx => wx = w8 ∧ ∃ j : Nat, j ≤ nw ∧ k = .int .i64 ((p + j : Nat) : Int)) (fun k _ => s.length - (intOf k).toNat)
                          case atStart => exact ⟨rfl, 0, by omega, rfl⟩
                          case round =>
                            obtain ⟨rfl, j, hj, rfl⟩ := hrel
                            by_cases hlt2 : j < nw
                            · obtain ⟨h3, h2⟩ := HIN.out j hlt2
                              have HCW := Lib.hid (rword_is (s[p + j]'h3) true wr h2)
                              clear h2
                              go_wp2_with (go_at_call 43; refine HCW.out.mono ?_; rintro e w9 ⟨rfl, rfl⟩)
                              go_roundw
                              case rel => exact ⟨trivial, j + 1, by omega, by go_num⟩
                              case measure => simp [intOf]; omega
                            · obtain rfl : j = nw := by omega
                              by_cases h3 : p + j < s.length
                              · have HCW := Lib.hid (rword_is (s[p + j]'h3) false wr (HOUT.out h3))
                                go_wp2_with (go_at_call 43; refine HCW.out.mono ?_; rintro e w9 ⟨rfl, rfl⟩)
                                go_meet
                                case rel => exact ⟨rfl, rfl⟩
                              · go_wp2_with fail
                                go_meet
                                case rel => exact ⟨rfl, rfl⟩
                        case rest =>
                          obtain ⟨rfl, rfl⟩ := hcut
                          have d1 := cellIn HB2.out.box 1 rfl
                          have e1 := freeIn HB2.out.box 1
                          clear HIN HOUT c0 c1
                          obtain ⟨word, HWORD⟩ : ∃ x, Hid ((s.drop p).takeWhile isWord = x) := ⟨_, rfl⟩
                          have hwl : word.length = nw := by rw [← HWORD.out]; exact HNW.out
                          have htake : (s.drop p).take nw = word := by rw [← HWORD.out, ← HNW.out]; exact takeWhile_take _ _
                          have HTK := Lib.hid htake
                          have HVJ := Lib.hid hvj
                          have hwl6 : word.length ≤ 6000 := by omega
                          clear htake hvj
                          obtain ⟨vp, HVP⟩ : ∃ x, Hid ((if ws = [] then [] else vl ++ [32]) = x) := ⟨_, Lib.hid rfl⟩
                          have hvp : vp.length ≤ 61 := by
                            rw [← HVP.out]; split
                            · simp
                            · simp; omega
                          go_upto_if 95 with fail
                          go_cut [] (fun wx => Hid (DBox w2 wx b db s v nm vp false good p))
                          case first =>
                            by_cases hve : vl = []
                            · have e0 : vp = [] := by rw [← HVP.out, if_pos (hvn.1 hve)]
                              subst hve
                              go_wp2_with fail
                              go_meet
                              case rel => rw [e0]; exact HB2
                            · have e0 : vp = vl ++ [32] := by rw [← HVP.out, if_neg (fun h => hve (hvn.2 h))]
                              have hem : vl.isEmpty = false := by cases vl with | nil => exact absurd rfl hve | cons a t => rfl
                              have HPUT := Lib.hid (HB2.out.put (vl ++ [32]))
                              go_wp2_with fail
                              go_meet
                              case rel => rw [e0]; exact HPUT
                              all_goals (exfalso; rename_i hx; rw [hem] at hx; cases hx)
                          case rest =>
                            have HB3 := Lib.hid hcut.out
                            clear hcut d1 e1 HB2
                            have d1 := cellIn HB3.out.box 1 rfl
                            have e1 := freeIn HB3.out.box 1
                            have c0 := HB3.out.rd.c0
                            have c1 := HB3.out.rd.c1
                            have k1 := HB3.out.rd.free 1
                            have g1 : ¬ db = b := by have := HB3.out.hb; omega
                            have htake := HTK.out
                            have hjoin : joinW (ws ++ [word]) = vp ++ word := by
                              rw [joinW_snoc, ← HVP.out]
                              split
                              · rfl
                              · rw [HVJ.out]; simp
                            have hne : (s.drop p).takeWhile isWord ≠ [] := by
                              rw [HWORD.out]; intro h; rw [h] at hwl; simp at hwl; omega
                            obtain ⟨w9, HW9⟩ : ∃ x, Hid ((wc.setCell ⟨db, 1, none⟩ (.string (str (vp ++ word)))).drew = x) := ⟨_, Lib.hid rfl⟩
                            have HB4 : Hid (DBox w2 w9 b db s v nm (vp ++ word) false good p) := Lib.hid (by rw [← HW9.out]; exact (HB3.out.put _).quiet ⟨1, rfl⟩)
                            have HJ := Lib.hid hjoin
                            have HNE := Lib.hid hne
                            clear hjoin hne
                            go_upto_region 16 with fail
                            go_region
                            go_upto_region 17 with fail
                            rw [HW9.out]
                            clear HB3 d1 e1 c0 c1 k1 htake HW9
                            have d1 := cellIn HB4.out.box 1 rfl
                            have c1 := HB4.out.rd.c1
                            have k1 := HB4.out.rd.free 1
                            by_cases h60 : 60 < vp.length + word.length
                            · have h60I : (60 : Int) < (vp.length : Int) + (word.length : Int) := by omega
                              have HX : Hid (sValL (n + 1) ws (s.drop p) p = .bad ⟨4, p⟩) := Lib.hid (valL_long HNE.out (by rw [HWORD.out, HJ.out, List.length_append]; exact h60))
                              go_wp2_with fail
                              refine (stop_good 4 p _ b s p good v HB4.out.rd rfl).mono ?_
                              rintro e w10 ⟨rfl, hk10, h10⟩
                              have HB10 := Lib.hid (HB4.out.step hk10 h10 (fun hh => absurd hh (by simp)))
                              clear hk10 h10
                              go_wp2_with fail
                              go_meet
                              case rel => exact ⟨⟨4, p⟩, _, p, ws, HB10, by rw [List.length_append]; omega, Lib.hid (HM.out.kill rfl HX.out (by simp)), fun hh => absurd hh (by simp)⟩
                            · have h60I : ¬ (60 : Int) < (vp.length : Int) + (word.length : Int) := by omega
                              have HX : Hid (sValL (n + 1) ws (s.drop p) p = (sGap (s.drop (p + nw)) (p + nw)).then fun x => sValL n (ws ++ [word]) x.1 x.2) := Lib.hid (by
                                rw [valL_more HNE.out (by rw [HWORD.out, HJ.out, List.length_append]; exact h60), HWORD.out, hwl, List.drop_drop])
                              have HB5 : Hid (DBox w2 (w9.setCell ⟨b, 1, none⟩ (.int .i64 ((p + nw : Nat) : Int))) b db s v nm (vp ++ word) false good (p + nw)) := Lib.hid (HB4.out.set rfl hnw)
                              go_wp2_with fail
                              refine (rblank_gen _ b s (p + nw) good v HB5.out.rd (fun _ => rfl)).mono ?_
                              rintro e w10 ⟨f10, p10, rfl, hk10, h10, hg10, hs10⟩
                              have HB10 := Lib.hid (HB5.out.step hk10 h10 hg10)
                              have M10 := Lib.hid ((HM.out.eq (fun _ => HX.out)).step (k := fun x => sValL n (ws ++ [word]) x.1 x.2) hs10.out)
                              have hgt : f10.err = 0 → p + nw ≤ p10 := fun hh => by
                                rcases hs10.out.2 rfl with ⟨_, h⟩ | ⟨h, _⟩
                                · obtain ⟨g, _, _, hh, _⟩ := gap_inv _ _ _ _ _ (Nat.le_refl _) h
                                  omega
                                · exact absurd hh h
                              have hle10 := h10.2.1
                              clear hk10 h10 hg10 hs10
                              go_wp2_with fail
                              by_cases hf10 : f10.err = 0
                              · have hgt' := hgt hf10
                                go_roundg (s.length - p10 + 1)
                                case measure => omega
                                case rel => exact ⟨f10, vp ++ word, p10, ws ++ [word], n, HB10, by rw [List.length_append]; omega, M10, fun _ => ⟨by omega, rfl, HJ.out.symm, by rw [List.length_append]; omega, by
                                  constructor
                                  · intro h; have := congrArg List.length h; rw [List.length_append, List.length_nil] at this; omega
                                  · intro h; simp at h⟩⟩
                              · go_roundg 0
                                case measure => omega
                                case rel => exact ⟨f10, vp ++ word, p10, ws ++ [word], n, HB10, by rw [List.length_append]; omega, M10, fun hh => absurd hh hf10⟩
                    · have hd : decide ((p : Int) < (s.length : Int)) = false := by simp; omega
                      have htk : (s.drop p).takeWhile isWord = [] := by rw [List.drop_of_length_le (show s.length ≤ p by omega)]; rfl
                      have HX := Lib.hid (HM.out.eq (fun _ => valL_end (n := n) (ws := ws) (a := p) htk))
                      clear htk
                      go_wp2_with fail
                      go_quiet (first | (go_at_call 23; exact Calls.quiet_of_same (ok_is true _ b s p good v HB.out.rd rfl)))
                      have HB2 := Lib.hid (HB.out.quiet (wx := wr.drewN nq) ⟨_, rfl⟩)
                      go_wp2_with fail
                      go_meet
                      case rel => exact ⟨good, vl, p, ws, HB2, hvl, Lib.hid (HX.out.eq (fun _ => by rw [hvj])), fun _ => hvn⟩
                  · have hf' : ((f.err : Int) == 0) = false := by simp; omega
                    go_wp2_with fail
                    go_quiet ((go_at_call 23; exact Calls.quiet_of_same (ok_is false _ _ _ _ _ _ HB.out.rd hf')))
                    have HB2 := Lib.hid (HB.out.quiet (wx := wr.drewN nq) ⟨_, rfl⟩)
                    go_wp2_with fail
                    go_meet
                    case rel => exact ⟨f, vl, p, ws, HB2, hvl, Lib.hid (HM.out.dead hf), fun hh => absurd hh hf⟩
              case rest => as_aux_lemma =>
                obtain ⟨f8, vl, p8, ws, HB8, hvl, M8, hvn⟩ := hcut
                have d1 := cellIn HB8.out.box 1 rfl
                have c1 := HB8.out.rd.c1
                clear HB7
                go_upto_if 132 with fail
                go_cut [] (fun wx => ∃ f p, Hid (DBox w2 wx b db s v nm vl false f p) ∧ Hid (Step f7 V f (vl, s.drop p, p)))
                case first =>
                  by_cases hve : vl = []
                  · have HVE := Lib.hid (hvn)
                    have HE := Lib.hid hve
                    subst hve
                    by_cases hf : f8.err = 0
                    · have hwe : ws = [] := (hvn hf).1 rfl
                      have HX : Hid ((if ws = ([] : List B) then (.bad ⟨2, p8⟩ : Ans (B × B × Nat)) else .ok ([], s.drop p8, p8)) = .bad ⟨2, p8⟩) := Lib.hid (by rw [if_pos hwe])
                      clear hvn hwe
                      go_wp2_with fail
                      refine (stop_good 2 p8 _ b s p8 f8 v HB8.out.rd hf).mono ?_
                      rintro e w10 ⟨rfl, hk10, h10⟩
                      have HB10 := Lib.hid (HB8.out.step hk10 h10 (fun hh => absurd hh (by simp)))
                      clear hk10 h10
                      go_wp2_with fail
                      go_meet
                      case rel => exact ⟨⟨2, p8⟩, p8, HB10, Lib.hid (Mid.fin (M8.out.kill hf HX.out (by simp)))⟩
                    · clear hvn
                      go_wp2_with fail
                      refine (stop_dead 2 (p8 : Int) _ b s p8 f8 v HB8.out.rd hf).mono ?_
                      rintro e w10 ⟨rfl, rfl⟩
                      go_wp2_with fail
                      go_meet
                      case rel => exact ⟨f8, p8, HB8, Lib.hid (Mid.fin (M8.out.dead hf))⟩
                  · have hem : vl.isEmpty = false := by cases vl with | nil => exact absurd rfl hve | cons a t => rfl
                    have HS : Hid (Step f7 V f8 (vl, s.drop p8, p8)) := Lib.hid (Mid.fin (M8.out.eq (fun hf => by rw [if_neg (fun h => hve ((hvn hf).2 h))])))
                    clear hvn
                    go_wp2_with fail
                    all_goals first
                      | (exfalso; have hx : vl.isEmpty = true := (by assumption); rw [hem] at hx; cases hx; done)
                      | go_meet
                    case rel => exact ⟨f8, p8, HB8, HS⟩
                case rest =>
                  obtain ⟨f9, p9, HB9, S9⟩ := hcut
                  have hM7 : Mid good D f7 (V.then (dRest4 nm)) := by rw [← HV.out]; exact M7.out
                  have M9 := Lib.hid (hM7.step S9.out)
                  clear hM7
                  clear HB8 M8 S9 d1 c1
                  go_wp2_with fail
                  refine (eat_gen [33] _ b s p9 f9 v HB9.out.rd (by decide) (by simp)).mono ?_
                  rintro e w10 ⟨x, rfl, hk10, p10, h10, hx1, hx2⟩
                  have HB10 := Lib.hid (HB9.out.step hk10 h10 HB9.out.al)
                  clear hk10 h10
                  go_upto_if 140 with fail
                  go_cut [] (fun wx => ∃ st f p, Hid (DBox w2 wx b db s v nm vl st f p) ∧ Hid (Step f9 (sStrong (s.drop p9) p9) f (st, s.drop p, p)))
                  case first =>
                    cases x with
                    | false =>
                      obtain ⟨rfl, hno⟩ := hx2 rfl
                      have HS : Hid (Step f9 (sStrong (s.drop p10) p10) f9 (false, s.drop p10, p10)) := Lib.hid (by
                        by_cases hf : f9.err = 0
                        · exact ⟨fun hh => absurd hf hh, fun _ => .inl ⟨hf, by unfold sStrong; rw [hno hf]; rfl⟩⟩
                        · exact Step.dead hf)
                      clear hx1 hx2 hno
                      go_wp2_with fail
                      go_meet
                      case rel => exact ⟨false, f9, p10, HB10, HS⟩
                    | true =>
                      obtain ⟨hf, hyes, rfl⟩ := hx1 rfl
                      have hM : Mid f9 (sStrong (s.drop p9) p9) f9 ((pMust importantWord (s.drop (p9 + [33].length)) (p9 + [33].length)).then fun x => (sGap x.1 x.2).then fun y => .ok (true, y.1, y.2)) := (Mid.start _ _).eq (fun _ => by
                        unfold sStrong; rw [hyes, if_pos rfl, List.drop_drop]; rfl)
                      have HM := Lib.hid hM
                      clear hx1 hx2 hM hyes
                      go_wp2_with fail
                      refine (need_gen importantWord _ b s (p9 + [33].length) f9 v HB10.out.rd HB10.out.al (by decide) (by decide)).mono ?_
                      rintro e w11 ⟨rfl, hk11, f11, p11, h11, hg11, hs11⟩
                      have HB11 := Lib.hid (HB10.out.step hk11 h11 hg11)
                      have M11 := Lib.hid (HM.out.step (k := fun x => (sGap x.1 x.2).then fun y => .ok (true, y.1, y.2)) hs11.out)
                      clear hk11 h11 hg11 hs11 HB10 HM
                      have d2 := cellIn HB11.out.box 2 rfl
                      have e2 := freeIn HB11.out.box 2
                      have HB12 := Lib.hid (HB11.out.strong true)
                      go_wp2_with fail
                      refine (rblank_gen _ b s p11 f11 v HB12.out.rd HB12.out.al).mono ?_
                      rintro e w13 ⟨f13, p13, rfl, hk13, h13, hg13, hs13⟩
                      have HB13 := Lib.hid (HB12.out.step hk13 h13 hg13)
                      have M13 := Lib.hid (Mid.fin (M11.out.step (k := fun y => .ok (true, y.1, y.2)) hs13.out))
                      clear hk13 h13 hg13 hs13
                      go_wp2_with fail
                      go_meet
                      case rel => exact ⟨true, f13, p13, HB13, M13⟩
                  case rest =>
                    obtain ⟨st, f14, p14, HB14, S14⟩ := hcut
                    have M14 : Hid (Step good D f14 ((⟨nm, vl, st⟩ : PDecl), s.drop p14, p14)) := Lib.hid (Mid.fin (M9.out.step (k := fun y => .ok ((⟨nm, vl, y.1⟩ : PDecl), y.2.1, y.2.2)) S14.out))
                    clear HB10 M9 S14 hx1 hx2
                    obtain ⟨d, HDD⟩ : ∃ x : PDecl, Hid ((⟨nm, vl, st⟩ : PDecl) = x) := ⟨_, Lib.hid rfl⟩
                    have MX : Hid (Mid f0 R f14 (dKeep n ds (d, s.drop p14, p14))) := Lib.hid ((HL2.out.mid.out.eq (fun _ => HX.out)).step (k := dKeep n ds) (by rw [HD.out, ← HDD.out]; exact M14.out))
                    have hp14 : f14.err = 0 → p < p14 := fun hh => by
                      rcases M14.out.2 rfl with ⟨_, h⟩ | ⟨h, _⟩
                      · exact decl_loc.2 _ _ _ _ _ (HD.out.trans h)
                      · exact absurd hh h
                    have how := owns_kept HL2.out.own HB14.out.kept (fun k hk hs => by have := (HL2.out.own.lt k hk).1; omega)
                    have HOW := Lib.hid how
                    have hbs : w.heap.size ≤ wc.heap.size := Nat.le_trans HL2.out.kept.size HB14.out.kept.size
                    obtain ⟨i0, hi0, hz0, hz1, hz2⟩ := info_parts info_decl'
                    have d0 := cellIn HB14.out.box 0 rfl
                    have d1 := cellIn HB14.out.box 1 rfl
                    have d2 := cellIn HB14.out.box 2 rfl
                    clear how M14 M7 HD
                    go_wp2_with (at_builtin; refine wpList_append_lies _ rfl _ _ _ rfl w.heap.size 62 i0 _ 3 40 Try.underlying22 hi0 hz0 hz1 hz2 rfl (by omega) _ ds.length _ (by rfl) (HOW.out.alloc _) ⟨wc.heap.size, 0, none⟩ 1 1 [.string (str nm), .string (str vl), .bool st] (by rfl) (by rfl) (World.news_of_block (cs := #[.string (str nm), .string (str vl), .bool st]) (t := 62) (fr := (0, 0)) (heap_alloc_new wc _)) (by simp [Value.oneCell']) (by omega) (by unfold maxLen; omega) (by omega) (by simp; omega) (wc.heap.size + 1) (by simp) ?_; intro gg cap w15 hown15 hgrow15 hat15 hlt15)
                    have hk15 : Kept (fun k => (Value.slice lo ds.length lc).ownBlock = some k) wc w15 := ((Kept.refl _ wc).alloc _).grown ⟨hgrow15.os, hgrow15.tape, hgrow15.output, hgrow15.size, hgrow15.block⟩ (fun k hk => .inl hk)
                    have hob : ∀ k, (Value.slice lo ds.length lc).ownBlock = some k → w.heap.size ≤ k := fun k hk => (HOW.out.lt k hk).1
                    have HR15 : Hid (WkAt w15 b s p14 f14 v) := Lib.hid (HB14.out.rd.kept hk15 (fun hs => by have := hob b hs; omega))
                    have HK15 : Hid (Kept (· = b) w w15) := Lib.hid ((HL2.out.kept.trans HB14.out.kept).trans' hk15 (fun k hk hs => by have := hob k hs; omega))
                    have hown16 : w15.ownsRow w.heap.size 62 3 (.slice (some ⟨gg, 0, none⟩) (ds.length + 1) cap) (ds ++ [d]).length ((ds ++ [d]).map declCells).flatten := by
                      have := hown15
                      rw [← HDD.out]
                      simpa [declCells] using this
                    have HO16 := Lib.hid hown16
                    have hal14 := HB14.out.al
                    clear hk15 hob hown15 hgrow15 hat15 hown16 d0 d1 d2
                    go_wp2_with fail
                    refine (eat_gen [59] _ b s p14 f14 v HR15.out (by decide) (by simp)).mono ?_
                    rintro e w16 ⟨x, rfl, hk16, p16, h16, hx1, hx2⟩
                    have HK16 := Lib.hid (HK15.out.trans hk16)
                    have HO17 := Lib.hid (owns_kept HO16.out hk16 (fun k hk hs => by have := (HO16.out.lt k hk).1; omega))
                    have H16 := Lib.hid h16
                    clear hk16 h16
                    cases x with
                    | false =>
                      obtain ⟨rfl, hno⟩ := hx2 rfl
                      have HM : Hid (Mid f0 R f14 (.ok (ds ++ [d], s.drop p16, p16))) := Lib.hid (MX.out.eq (fun hf => by unfold dKeep; rw [if_neg (by rw [hno hf]; simp)]))
                      clear hx1 hx2 hno
                      go_wp2_with fail
                      go_meet
                      case rel => exact ⟨ds ++ [d], f14, p16, Lib.hid ⟨H16.out, HK16.out, hal14, HO17.out, by simp; omega, HM⟩⟩
                    | true =>
                      obtain ⟨hf, hyes, rfl⟩ := hx1 rfl
                      have HM : Hid (Mid f0 R f14 ((sGap (s.drop (p14 + [59].length)) (p14 + [59].length)).then fun y => sDeclsL n (ds ++ [d]) y.1 y.2)) := Lib.hid (MX.out.eq (fun hf => by unfold dKeep; rw [hyes, if_pos rfl, List.drop_drop]; rfl))
                      have hp14' := hp14 hf
                      clear hx1 hx2 hyes
                      go_wp2_with fail
                      refine (rblank_gen _ b s (p14 + [59].length) f14 v H16.out hal14).mono ?_
                      rintro e w18 ⟨f18, p18, rfl, hk18, h18, hg18, hs18⟩
                      have HM18 := Lib.hid (HM.out.step (k := fun y => sDeclsL n (ds ++ [d]) y.1 y.2) hs18.out)
                      have hgt : f18.err = 0 → p14 + 1 ≤ p18 := fun hh => by
                        rcases hs18.out.2 hf with ⟨_, h⟩ | ⟨h, _⟩
                        · obtain ⟨g, _, _, hg, _⟩ := gap_inv _ _ _ _ _ (Nat.le_refl _) h
                          simp at hg; omega
                        · exact absurd hh h
                      have hle18 := h18.2.1
                      have HDL : Hid (RDLoop w w18 b s v f0 R (sDeclsL n (ds ++ [d]) (s.drop p18) p18) (.slice (some ⟨gg, 0, none⟩) (ds.length + 1) cap) (ds ++ [d]) f18 p18) := Lib.hid ⟨h18, HK16.out.trans hk18, hg18, owns_kept HO17.out hk18 (fun k hk hs => by have := (HO17.out.lt k hk).1; omega), by simp; omega, HM18⟩
                      clear hk18 h18 hg18 hs18
                      go_wp2_with fail
                      by_cases hf18 : f18.err = 0
                      · have hgt' := hgt hf18
                        go_roundg (s.length - p18 + 1)
                        case measure => omega
                        case rel => exact ⟨ds ++ [d], f18, p18, n, HDL, fun _ => ⟨by omega, rfl⟩⟩
                      · go_roundg 0
                        case measure => omega
                        case rel => exact ⟨ds ++ [d], f18, p18, n, HDL, fun hh => absurd hh hf18⟩
        · have hX := declsL_end (n := n) (ds := ds) (l := s.drop p) (a := p) (by rw [List.drop_of_length_le (show s.length ≤ p by omega)]; rfl)
          have HX := Lib.hid (HL.out.mid.out.eq (fun _ => hX))
          have hd : decide ((p : Int) < (s.length : Int)) = false := by simp; omega
          clear hX
          go_wp2_with fail
          go_quiet (first | (go_at_call 23; exact Calls.quiet_of_same (ok_is true _ b s p good v HL.out.rd rfl)))
          go_wp2_with fail
          go_meet
          case rel => exact ⟨ds, good, p, Lib.hid ((HL.out.turn HX.out).quiet ⟨_, rfl⟩)⟩
      · have hf' : ((f.err : Int) == 0) = false := by simp; omega
        go_wp2_with fail
        go_quiet ((go_at_call 23; exact Calls.quiet_of_same (ok_is false _ _ _ _ _ _ HL.out.rd hf')))
        go_wp2_with fail
        go_meet
        case rel => exact ⟨ds, f, p, Lib.hid ((HL.out.turn (HL.out.mid.out.dead hf)).quiet ⟨_, rfl⟩)⟩
end Go.Proofs.Ytplbdlgmjehckab
