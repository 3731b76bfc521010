/-
  Lemmas for the claims of this seat: the program's functions walked, and plain laws. In this order: PgAttr.
-/
import Derived.Test.YtplbdlgmjehckadGreatDoorPk19
import Derived.Test.YtplbdlgmjehckadGreatDoorPk13
namespace Go.Proofs.YtplbdlgmjehckadGreatDoor
open Go.RowKit
set_option linter.unusedVariables false
set_option linter.unusedSimpArgs false
set_option maxHeartbeats 400000 in
theorem attrSame_any (g : Nat) (nm : B) (x : PAttr) (w : World) (h : w.cell? ⟨g, 0, none⟩ = some (.string (str nm))) :
    Calls Tryz.prog 121 #[.agg #[.string (str x.name), .string (str x.val), .int .i64 x.lo, .int .i64 x.hi], .pointer (some ⟨g, 0, none⟩)] w
      fun e w' => e = .returned (.bool (nm == x.name)) ∧ Below w.heap.size w w' := by
  have hg := World.block_lt_of_cell? w _ h
  dsimp only at hg
  go_enter Tryz.func121, Tryz.ntmps121
  go_wp2
  go_ret
  exact ⟨rfl, (Below.refl _ _).alloc (Nat.le_refl _) _⟩
def idxAttr (nm : B) (al : List PAttr) : Int := idx (al.findIdx? (fun a => a.name == nm))
def PostIdx (w : World) (n : Int) (e : Ending) (w' : World) : Prop := e = .returned (.int .i64 n) ∧ Below w.heap.size w w'
theorem idxAttr_hit {nm : B} {al : List PAttr} {k : Nat} {x : PAttr} (hb : ∀ j y, j < k → al[j]? = some y → (y.name == nm) = false) (hx : al[k]? = some x) (hn : (x.name == nm) = true) : idxAttr nm al = k := by
  have hk := (List.getElem?_eq_some_iff.1 hx).1
  have : al.findIdx? (fun a => a.name == nm) = some k := by
    rw [List.findIdx?_eq_some_iff_getElem]
    refine ⟨hk, ?_, fun j hj => ?_⟩
    · rw [(List.getElem?_eq_some_iff.1 hx).2]; exact hn
    · have := hb j al[j] hj (List.getElem?_eq_getElem _)
      simp [this]
  unfold idxAttr; rw [this]; rfl
theorem idxAttr_miss {nm : B} {al : List PAttr} (hb : ∀ (j : Nat) (y : PAttr), al[j]? = some y → (y.name == nm) = false) : idxAttr nm al = -1 := by
  have : al.findIdx? (fun a => a.name == nm) = none := by
    rw [List.findIdx?_eq_none_iff]
    intro x hx
    obtain ⟨j, hj⟩ := List.mem_iff_getElem?.1 hx
    exact hb j x hj
  unfold idxAttr; rw [this]; rfl
theorem beq_comm' (a b : B) : (a == b) = (b == a) := by
  rw [Bool.eq_iff_iff, beq_iff_eq, beq_iff_eq]; exact ⟨Eq.symm, Eq.symm⟩
set_option maxHeartbeats 800000 in
theorem idxFunc_any (v : Value) (al : List PAttr) (g : Nat) (nm : B) (w : World) (hv : AttrsAt w v al) (h : w.cell? ⟨g, 0, none⟩ = some (.string (str nm))) :
    Calls Tryz.prog 135 #[v, .func (.func 121) #[] #[.pointer (some ⟨g, 0, none⟩)]] w (PostIdx w (idxAttr nm al)) := by
  have HV := Lib.hid hv
  obtain ⟨a, cap, rfl, hle, hcap⟩ := hv.form
  have hg := World.block_lt_of_cell? w _ h
  have HG := Lib.hid h
  unfold maxLen at hcap
  clear hv h
  go_enter Tryz.func135, Tryz.ntmps135
  go_wp2
  go_loopw [8] (fun i wr => ∃ k : Nat, k ≤ al.length ∧ i = .int .i64 k ∧ Below w.heap.size w wr ∧ Hid (∀ j y, j < k → al[j]? = some y → (y.name == nm) = false)) (fun i _ => al.length - (intOf i).toNat)
  case atStart => exact ⟨0, by omega, rfl, Below.refl _ _, fun j y hj => by omega⟩
  case round =>
    obtain ⟨k, hk, rfl, hb, HH⟩ := hrel
    by_cases hlt : k < al.length
    · have hv1 := HV.out.below hb
      have hx := List.getElem?_eq_getElem hlt
      generalize hgx : al[k] = x at hx
      clear hgx
      obtain ⟨b, off, rfl, g0, g1, g2, g3⟩ := AttrsAt.at hv1 hx
      have HX := Lib.hid hx
      have HB := Lib.hid hb
      have hcell := hb.cell (p := ⟨g, 0, none⟩) hg
      rw [HG.out] at hcell
      have HC := Lib.hid hcell
      clear hx hv1 hb hcell
      go_wp2_with (go_at_call 121; refine (attrSame_any g nm x _ HC.out).mono ?_; rintro e w2 ⟨rfl, hb2⟩)
      · have hc : (nm == x.name) = true := by assumption
        go_ret
        exact ⟨reti (idxAttr_hit HH.out HX.out (by rw [beq_comm']; exact hc)).symm, HB.out.trans (hb2.mono HB.out.size)⟩
      · have hc : (nm == x.name) = false := by assumption
        go_roundw
        case rel =>
          refine ⟨k + 1, by omega, by go_num, HB.out.trans (hb2.mono HB.out.size), fun j y hj hy => ?_⟩
          by_cases hjk : j = k
          · subst hjk
            rw [HX.out] at hy; cases hy
            rw [beq_comm']; exact hc
          · exact HH.out j y (by omega) hy
        case measure => simp [intOf]; omega
    · go_wp2
      go_ret
      refine ⟨reti ?_, hb⟩
      rw [idxAttr_miss (fun j y hy => HH.out j y (by have := (List.getElem?_eq_some_iff.1 hy).1; omega) hy)]
set_option maxHeartbeats 400000 in
theorem containsFunc_any (v : Value) (al : List PAttr) (g : Nat) (nm : B) (w : World) (hv : AttrsAt w v al) (h : w.cell? ⟨g, 0, none⟩ = some (.string (str nm))) :
    Calls Tryz.prog 120 #[v, .func (.func 121) #[] #[.pointer (some ⟨g, 0, none⟩)]] w
      fun e w' => e = .returned (.bool (al.any fun a => a.name == nm)) ∧ Below w.heap.size w w' := by
  have HV := Lib.hid hv
  have HG := Lib.hid h
  clear hv h
  go_enter Tryz.func120, Tryz.ntmps120
  go_wp2_with (go_at_call 135; refine (idxFunc_any v al g nm _ HV.out HG.out).mono ?_; rintro e w2 ⟨rfl, hb2⟩)
  go_ret
  refine ⟨retb ?_, hb2⟩
  unfold idxAttr
  cases hf : al.findIdx? (fun a => a.name == nm) with
  | none =>
    rw [List.findIdx?_eq_none_iff] at hf
    have : (al.any fun a => a.name == nm) = false := by
      rw [List.any_eq_false]; intro x hx; simp [hf x hx]
    rw [this]; rfl
  | some k =>
    rw [List.findIdx?_eq_some_iff_getElem] at hf
    obtain ⟨hk, h1, _⟩ := hf
    have : (al.any fun a => a.name == nm) = true := List.any_eq_true.2 ⟨_, List.getElem_mem hk, h1⟩
    rw [this]; simp [idx]
def attrVal (a : PAttr) : Value := .agg #[.string (str a.name), .string (str a.val), .int .i64 a.lo, .int .i64 a.hi]
def AttrEnds (w : World) (b : Nat) (s : B) (v : Value) (r : Ans (PAttr × B × Nat)) (e : Ending) (w' : World) : Prop :=
  match r with
  | .bad f => e = thrown f ∧ Kept (· = b) w w'
  | .ok (a, l', at') => e = .returned (attrVal a) ∧ Kept (· = b) w w' ∧ RdAt w' b s at' v ∧ l' = s.drop at'
theorem pAttr_eq (al : List PAttr) (s : B) (at_ : Nat) : pAttr al (s.drop at_) at_ = (pName (s.drop (at_ + 1)) (at_ + 1)).then fun (nm, l2, at2) =>
    if (al.any fun a => a.name == nm) || al.length == 8 then .bad ⟨if al.length = 8 then 5 else 7, at_ + 1⟩ else
    (pMust [61, 34] l2 at2).then fun (l3, at3) =>
    (pMust [34] (l3.drop (pVal l3).length) (at3 + (pVal l3).length)).then fun (l5, at5) =>
    .ok (⟨nm, pVal l3, (at_ : Int), (at5 : Int)⟩, l5, at5) := by
  unfold pAttr; rw [List.drop_drop]
set_option maxRecDepth 100000 in
set_option maxHeartbeats 3200000 in
theorem attr_any (w : World) (b : Nat) (s : B) (at_ : Nat) (v vl : Value) (al : List PAttr) (h : RdAt w b s at_ v) (hal : AttrsAt w vl al) (hvb : ∀ k, vl.ownBlock = some k → k ≠ b)
    (hlt : at_ < s.length) (h8 : al.length ≤ 8) :
    Calls Tryz.prog 96 #[.pointer (some ⟨b, 0, none⟩), vl] w (AttrEnds w b s v (pAttr al (s.drop at_) at_)) := by
  obtain ⟨r, HR⟩ : ∃ r, Hid (pAttr al (s.drop at_) at_ = r) := ⟨_, rfl⟩
  rw [HR.out]
  have HR1 := HR.out
  rw [pAttr_eq] at HR1
  have HE := Lib.hid HR1
  have H := Lib.hid h
  have HAL := Lib.hid hal
  have HVB := Lib.hid hvb
  have c1 := h.c1
  have f1 := h.free 1
  have hb := h.lt
  have hm := h.2.2
  obtain ⟨vlo, vlc, rfl, _, _⟩ := hal.form
  clear h hal hvb HR1
  go_enter Tryz.func96, Tryz.ntmps96
  go_wp2_with fail
  clear c1 f1
  cases hp1 : pName (s.drop (at_ + 1)) (at_ + 1) with
  | bad f =>
    refine (name_bad _ b s (at_ + 1) v ((H.out.set (a' := at_ + 1) (by simp) (by omega)).alloc _) hp1).mono ?_
    rintro e w2 ⟨rfl, hq⟩
    obtain rfl : r = .bad f := by rw [← HE.out, hp1]; rfl
    have HQ := Lib.hid hq
    clear hq hp1
    go_wp2_with fail
    exact ⟨rfl, rfl, (((Kept.refl (· = b) w).setCell (p := ⟨b, 1, none⟩) (.inl rfl) _).alloc _).trans (HQ.out.kept _)⟩
  | ok x =>
    obtain ⟨nm, l2, at2⟩ := x
    refine (name_ok _ b s (at_ + 1) v ((H.out.set (a' := at_ + 1) (by simp) (by omega)).alloc _) hp1).mono ?_
    rintro e w2 ⟨rfl, hk2, hr2, rfl⟩
    have HE2 := HE.out
    rw [hp1] at HE2
    simp only [Ans.ok_then] at HE2
    have HEE := Lib.hid HE2
    have hk := (((Kept.refl (· = b) w).setCell (p := ⟨b, 1, none⟩) (.inl rfl) (.int .i64 ((at_ : Int) + 1))).alloc (.cells #[.string ⟨#[]⟩, .string ⟨#[]⟩, .int .i64 0, .int .i64 0] 77)).trans hk2
    have hn0 : w2.heap[w.heap.size]? = some (.cells #[.string ⟨#[]⟩, .string ⟨#[]⟩, .int .i64 0, .int .i64 0] 77 (0, 0)) := by
      refine hk2.heap (by omega) ?_
      have := newIn (w.setCell ⟨b, 1, none⟩ (.int .i64 ((at_ : Int) + 1))) (.cells #[.string ⟨#[]⟩, .string ⟨#[]⟩, .int .i64 0, .int .i64 0] 77)
      simpa using this
    have hal2 : AttrsAt w2 (.slice vlo al.length vlc) al := RowsAt.kept HAL.out hk (HVB.out)
    have HK2 := Lib.hid hk
    have H2 := Lib.hid hr2
    have HN := Lib.hid hn0
    have HAL2 := Lib.hid hal2
    clear hk hk2 hr2 hn0 hal2 HE2 hp1
    have hlw := ltIn HN.out
    go_wp2_with fail
    refine (containsFunc_any _ al w2.heap.size nm _ (RowsAt.alloc HAL2.out _) (cellIn (newIn _ _) 0 rfl)).mono ?_
    rintro e w3 ⟨rfl, hb3⟩
    have hr3 : RdAt w3 b s at2 v := (H2.out.alloc _).kept (S := fun _ => False) (Kept.of_below hb3) id
    have hk3 : Kept (· = b) w w3 := ((HK2.out).alloc _).trans (Kept.of_below hb3)
    have hn3 : w3.heap[w.heap.size]? = some (.cells #[.string ⟨#[]⟩, .string ⟨#[]⟩, .int .i64 0, .int .i64 0] 77 (0, 0)) :=
      (Kept.of_below (S := fun _ => False) hb3).heap id (oldIn HN.out _)
    have ht3 : w3.heap[w2.heap.size]? = some (.cells #[.string (str nm), .string ⟨#[]⟩, .int .i64 0, .int .i64 0] 77 (0, 0)) :=
      (Kept.of_below (S := fun _ => False) hb3).heap id (newIn _ _)
    have c1 := hr3.c1
    have f1 := hr3.free 1
    have hx2 : at_ + 1 ≤ s.length := by omega
    have H3 := Lib.hid hr3
    have HK3 := Lib.hid hk3
    have HN3 := Lib.hid hn3
    have HT3 := Lib.hid ht3
    clear hb3 hr3 hk3 hn3 ht3
    cases hany : (al.any fun a => a.name == nm) with
    | true =>
      have hbad : r = .bad ⟨if al.length = 8 then 5 else 7, at_ + 1⟩ := by rw [← HEE.out, hany]; rfl
      by_cases hl8 : al.length = 8
      · rw [if_pos hl8] at hbad
        subst hbad
        have e8 : ((al.length : Int) == 8) = true := by simp; omega
        clear hl8 hany
        go_wp2_with (go_at_call 38; refine (fail_any 5 _ b s (at_ + 1) v (H3.out.set (by simp) hx2)).mono ?_; rintro e w4 ⟨rfl, hq4⟩)
        exact ⟨rfl, rfl, (HK3.out.setCell (p := ⟨b, 1, none⟩) (.inl rfl) _).trans (hq4.kept _)⟩
      · rw [if_neg hl8] at hbad
        subst hbad
        have e8 : ((al.length : Int) == 8) = false := by simp; omega
        clear hl8 hany
        go_wp2_with (go_at_call 38; refine (fail_any 7 _ b s (at_ + 1) v (H3.out.set (by simp) hx2)).mono ?_; rintro e w4 ⟨rfl, hq4⟩)
        exact ⟨rfl, rfl, (HK3.out.setCell (p := ⟨b, 1, none⟩) (.inl rfl) _).trans (hq4.kept _)⟩
    | false =>
      by_cases hl8 : al.length = 8
      · have hbad : r = .bad ⟨5, at_ + 1⟩ := by rw [← HEE.out, hany, hl8]; rfl
        subst hbad
        have e8 : ((al.length : Int) == 8) = true := by simp; omega
        clear hl8 hany
        go_wp2_with (go_at_call 38; refine (fail_any 5 _ b s (at_ + 1) v (H3.out.set (by simp) hx2)).mono ?_; rintro e w4 ⟨rfl, hq4⟩)
        exact ⟨rfl, rfl, (HK3.out.setCell (p := ⟨b, 1, none⟩) (.inl rfl) _).trans (hq4.kept _)⟩
      · have e8 : ((al.length : Int) == 8) = false := by simp; omega
        have hE4 := HEE.out
        rw [hany, if_neg (by simp [hl8])] at hE4
        have HE4 := Lib.hid hE4
        clear hl8 hany hE4 HEE HE
        go_wp2_with fail
        cases hm1 : ([61, 34] : B).isPrefixOf (s.drop at2) with
        | false =>
          refine (must_bad [61, 34] _ b s at2 v H3.out hm1).mono ?_
          rintro e w4 ⟨rfl, hq4⟩
          obtain rfl : r = .bad ⟨2, at2⟩ := by rw [← HE4.out]; unfold pMust; rw [hm1]; rfl
          have HQ := Lib.hid hq4
          clear hq4 hm1
          go_wp2_with fail
          exact ⟨rfl, rfl, HK3.out.trans (HQ.out.kept _)⟩
        | true =>
          refine (must_ok [61, 34] _ b s at2 v H3.out hm1).mono ?_
          rintro e w4 ⟨rfl, hk4, hr4⟩
          obtain ⟨at3, HA3⟩ : ∃ at3, Hid (at2 + ([61, 34] : B).length = at3) := ⟨_, rfl⟩
          rw [HA3.out] at hr4
          have c0 := hr4.c0
          have c1 := hr4.c1
          have f1 := hr4.free 1
          have hl3 := hr4.2.1
          have hlw3 := ltIn HN3.out
          have hn4 := hk4.heap (by omega) HN3.out
          have hlt3 := ltIn HT3.out
          have ht4 := hk4.heap (by omega) HT3.out
          have HK4 := Lib.hid (HK3.out.trans hk4)
          have H4 := Lib.hid hr4
          have HN4 := Lib.hid hn4
          have HT4 := Lib.hid ht4
          have HM1 := Lib.hid hm1
          clear hk4 hr4 hn4 ht4 hm1
          obtain ⟨nv, HNV⟩ : ∃ nv, Hid ((pVal (s.drop at3)).length = nv) := ⟨_, rfl⟩
          have hnv : at3 + nv ≤ s.length := by
            have := takeWhile_len_le isVal (s.drop at3)
            have h2 : (pVal (s.drop at3)).length = nv := HNV.out
            unfold pVal at h2
            rw [List.length_drop] at this
            omega
          have HIN : Hid (∀ j, j < nv → ∃ h : at3 + j < s.length, isVal (s[at3 + j]'h) = true) := Lib.hid fun j hj => by
            have h2 : (pVal (s.drop at3)).length = nv := HNV.out
            obtain ⟨h3, h4⟩ := takeWhile_in isVal (s.drop at3) j (by unfold pVal at h2; omega)
            refine ⟨by rw [List.length_drop] at h3; omega, ?_⟩
            rw [drop_get s at3 j h3] at h4; exact h4
          have HOUT : Hid ((h : at3 + nv < s.length) → isVal (s[at3 + nv]'h) = false) := Lib.hid fun hlt => by
            have h2 : (pVal (s.drop at3)).length = nv := HNV.out
            unfold pVal at h2
            have h5 : ((s.drop at3).takeWhile isVal).length < (s.drop at3).length := by rw [List.length_drop]; omega
            have h6 := takeWhile_stop isVal (s.drop at3) h5
            rw [drop_get s at3 _ h5] at h6
            have : ∀ k, (hk : k = nv) → (h : at3 + k < s.length) → isVal (s[at3 + k]'h) = false → isVal (s[at3 + nv]'(by omega)) = false := by
              intro k hk; subst hk; exact fun _ h => h
            exact this _ h2 _ h6
          go_upto_block 0 with fail
          go_cut [9] (fun k wx => k = .int .i64 ((at3 + nv : Nat) : Int) ∧ wx = w4)
          case first =>
            go_wp2_with fail
            go_loop [9] (fun k => ∃ j : Nat, j ≤ nv ∧ k = .int .i64 ((at3 + j : Nat) : Int)) (fun k => s.length - (intOf k).toNat)
            case atStart => exact ⟨0, by omega, rfl⟩
            case round =>
              obtain ⟨j, hj, rfl⟩ := hrel
              by_cases hlt : j < nv
              · obtain ⟨h3, h2⟩ := HIN.out j hlt
                obtain ⟨g1, g2, g3, g4, g5⟩ := isVal_yes h2
                clear h2
                go_wp2
                go_round
                case rel => exact ⟨j + 1, by omega, by go_num⟩
                case measure => simp [intOf]; omega
              · obtain rfl : j = nv := by omega
                by_cases h3 : at3 + j < s.length
                · rcases isVal_no (HOUT.out h3) with g1 | ⟨g1, g2⟩ | ⟨g1, g2, g3⟩ | ⟨g1, g2, g3, g4⟩ | ⟨g1, g2, g3, g4, g5⟩
                  all_goals
                    go_wp2
                    go_meet
                    case rel => exact ⟨rfl, rfl⟩
                · go_wp2
                  go_meet
                  case rel => exact ⟨rfl, rfl⟩
          case rest =>
            obtain ⟨rfl, rfl⟩ := hcut
            have t0 := cellIn HT4.out 1 rfl
            have t1 := freeIn HT4.out 1
            go_wp2
            go_region
            go_wp2_with fail
            have hbw : ¬ b = w2.heap.size := by have := H2.out.lt; omega
            have hval : (s.drop at3).take nv = pVal (s.drop at3) := by
              rw [← HNV.out]; exact takeWhile_take isVal _
            have hr5 : RdAt ((wc.setCell ⟨w2.heap.size, 1, none⟩ (.string (str ((s.drop at3).take nv)))).setCell ⟨b, 1, none⟩ (.int .i64 ((at3 : Int) + (nv : Int)))).drew b s (at3 + nv) v :=
              (H4.out.other (p := ⟨w2.heap.size, 1, none⟩) hbw).set (by simp) hnv
            have ht5 : ((wc.setCell ⟨w2.heap.size, 1, none⟩ (.string (str ((s.drop at3).take nv)))).setCell ⟨b, 1, none⟩ (.int .i64 ((at3 : Int) + (nv : Int)))).drew.heap[w2.heap.size]? =
                some (.cells #[.string (str nm), .string (str ((s.drop at3).take nv)), .int .i64 0, .int .i64 0] 77 (0, 0)) :=
              otherIn (setIn HT4.out 1 _) _ _ (fun h => hbw h.symm)
            have hn5 : ((wc.setCell ⟨w2.heap.size, 1, none⟩ (.string (str ((s.drop at3).take nv)))).setCell ⟨b, 1, none⟩ (.int .i64 ((at3 : Int) + (nv : Int)))).drew.heap[w.heap.size]? =
                some (.cells #[.string ⟨#[]⟩, .string ⟨#[]⟩, .int .i64 0, .int .i64 0] 77 (0, 0)) :=
              otherIn (otherIn HN4.out _ _ (by show ¬ _ = w2.heap.size; omega)) _ _ (by show ¬ _ = b; omega)
            have hk5 : Kept (· = b) w ((wc.setCell ⟨w2.heap.size, 1, none⟩ (.string (str ((s.drop at3).take nv)))).setCell ⟨b, 1, none⟩ (.int .i64 ((at3 : Int) + (nv : Int)))).drew :=
              ((HK4.out.setCell (p := ⟨w2.heap.size, 1, none⟩) (.inr (by show _ ≤ w2.heap.size; omega)) _).setCell (p := ⟨b, 1, none⟩) (.inl rfl) _).drew
            have hE5 := HE4.out
            unfold pMust at hE5
            rw [HM1.out, if_pos rfl] at hE5
            simp only [Ans.ok_then, List.drop_drop] at hE5
            rw [HA3.out, HNV.out] at hE5
            revert hr5 ht5 hn5 hk5
            generalize World.drew (World.setCell (World.setCell wc _ _) _ _) = w5
            intro hr5 ht5 hn5 hk5
            have H5 := Lib.hid hr5
            have HT5 := Lib.hid ht5
            have HN5 := Lib.hid hn5
            have HK5 := Lib.hid hk5
            have HVAL := Lib.hid hval
            have HE5 := Lib.hid hE5
            clear hr5 ht5 hn5 hk5 hval hE5 t0 t1 c0 c1 f1
            cases hm2 : ([34] : B).isPrefixOf (s.drop (at3 + nv)) with
            | false =>
              refine (must_bad [34] _ b s (at3 + nv) v H5.out hm2).mono ?_
              rintro e w6 ⟨rfl, hq6⟩
              obtain rfl : r = .bad ⟨2, at3 + nv⟩ := by rw [← HE5.out, hm2]; rfl
              have HQ := Lib.hid hq6
              clear hq6 hm2
              go_wp2_with fail
              exact ⟨rfl, rfl, HK5.out.trans (HQ.out.kept _)⟩
            | true =>
              refine (must_ok [34] _ b s (at3 + nv) v H5.out hm2).mono ?_
              rintro e w6 ⟨rfl, hk6, hr6⟩
              have hlt7 := ltIn HT5.out
              have hn6 := hk6.heap (by omega) HN5.out
              have ht6 := hk6.heap (fun h => hbw h.symm) HT5.out
              have c1 := hr6.c1
              have x0 := cellIn ht6 0 rfl
              have x1 := cellIn ht6 1 rfl
              have x2 := cellIn ht6 2 rfl
              have x3 := cellIn ht6 3 rfl
              have y2 := freeIn ht6 2
              have y3 := freeIn ht6 3
              have z0 := cellIn hn6 0 rfl
              have z1 := cellIn hn6 1 rfl
              have z2 := cellIn hn6 2 rfl
              have z3 := cellIn hn6 3 rfl
              have u0 := freeIn hn6 0
              have u1 := freeIn hn6 1
              have u2 := freeIn hn6 2
              have u3 := freeIn hn6 3
              obtain rfl : r = .ok (⟨nm, pVal (s.drop at3), (at_ : Int), ((at3 + nv + ([34] : B).length : Nat) : Int)⟩, s.drop (at3 + nv + ([34] : B).length), at3 + nv + ([34] : B).length) := by
                rw [← HE5.out, hm2, if_pos rfl]; rfl
              have H6 := Lib.hid hr6
              have HK6 := Lib.hid (HK5.out.trans hk6)
              clear hr6 hk6 hn6 ht6 hm2 HE5 HR HE4
              have hns : ¬ w2.heap.size = w.heap.size := by omega
              go_wp2
              refine bodyPost_ret (v := .agg #[.string (str nm), .string (str ((s.drop at3).take nv)), .int .i64 (at_ : Int), .int .i64 ((at3 : Int) + (nv : Int) + 1)]) (by
                simp [results, Tryz.results96, go_sem, z0, z1, z2, z3]) rfl ?_
              have hbw0 : ¬ b = w.heap.size := by omega
              refine ⟨?_, ?_, ?_, rfl⟩
              · rw [HVAL.out]; rfl
              · exact (((((HK6.out.setCell (p := ⟨w2.heap.size, 2, none⟩) (.inr (by show _ ≤ w2.heap.size; omega)) _).setCell (p := ⟨w2.heap.size, 3, none⟩) (.inr (by show _ ≤ w2.heap.size; omega)) _).setCell
                  (p := ⟨w.heap.size, 0, none⟩) (.inr (Nat.le_refl _)) _).setCell (p := ⟨w.heap.size, 1, none⟩) (.inr (Nat.le_refl _)) _).setCell (p := ⟨w.heap.size, 2, none⟩) (.inr (Nat.le_refl _)) _).setCell (p := ⟨w.heap.size, 3, none⟩) (.inr (Nat.le_refl _)) _
              · exact (((((H6.out.other (p := ⟨w2.heap.size, 2, none⟩) hbw).other (p := ⟨w2.heap.size, 3, none⟩) hbw).other (p := ⟨w.heap.size, 0, none⟩) hbw0).other (p := ⟨w.heap.size, 1, none⟩) hbw0).other (p := ⟨w.heap.size, 2, none⟩) hbw0).other (p := ⟨w.heap.size, 3, none⟩) hbw0
end Go.Proofs.YtplbdlgmjehckadGreatDoor

