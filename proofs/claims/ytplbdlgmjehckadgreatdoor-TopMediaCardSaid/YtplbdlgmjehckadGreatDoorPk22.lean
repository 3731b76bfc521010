/-
  Lemmas for the claims of this seat: the program's functions walked, and plain laws. In this order: PgItems PgParse FoCtx.
-/
import Derived.Test.YtplbdlgmjehckadGreatDoorPk21
import Derived.Recover
import Derived.WideLaws
import Derived.Test.YtplbdlgmjehckadGreatDoorPk17
import Derived.Test.YtplbdlgmjehckadGreatDoorPk7
namespace Go.Proofs.YtplbdlgmjehckadGreatDoor
open Go.RowKit
set_option linter.unusedVariables false
set_option linter.unusedSimpArgs false
theorem pItems_eq (f : Nat) (parent : Int) (deep : Nat) (ns : List PNode) (s : B) (a : Nat) (ha : a < s.length) : pItems (f + 1) parent deep ns (s.drop a) a =
    (if ([60, 47] : B).isPrefixOf (s.drop a) then .ok (ns, s.drop a, a)
    else if noteBegin.isPrefixOf (s.drop a) then
      match findSub noteEnd (s.drop (a + 4)) with
      | none => .bad ⟨2, s.length⟩
      | some e => pItems f parent deep ns (s.drop (a + (4 + e + 3))) (a + (4 + e + 3))
    else if ([60] : B).isPrefixOf (s.drop a) then (pElem (pItems f) parent deep ns (s.drop a) a).then fun (ns', l', at') => pItems f parent deep ns' l' at'
    else if pTextOk (s[a]'ha) then pItems f parent deep ns (s.drop (a + 1)) (a + 1)
    else .bad ⟨2, a⟩) := by
  have e := List.drop_eq_getElem_cons ha
  have el : (s[a] :: s.drop (a + 1)).length = s.length - a := by rw [← e]; exact List.length_drop
  have ed : ∀ k, (s[a] :: s.drop (a + 1)).drop k = s.drop (a + k) := fun k => by rw [← e, List.drop_drop]
  rw [e, pItems, el, show a + (s.length - a) = s.length from by omega]
  simp only [ed]
  rfl
theorem pItems_end (f : Nat) (parent : Int) (deep : Nat) (ns : List PNode) (s : B) (a : Nat) (ha : s.length ≤ a) : pItems (f + 1) parent deep ns (s.drop a) a = .ok (ns, s.drop a, a) := by
  rw [List.drop_of_length_le ha]; rfl
theorem pAttrs_pos : ∀ (f : Nat) (al al' : List PAttr) (l l' : B) (a a' : Nat), pAttrs f al l a = .ok (al', l', a') → a ≤ a'
  | 0, _, _, _, _, _, _, h => by cases h
  | f + 1, al, al', l, l', a, a', h => by
    unfold pAttrs at h
    split at h
    · cases h1 : pAttr al l a with
      | bad g => rw [h1] at h; cases h
      | ok x =>
        obtain ⟨b, l2, a2⟩ := x
        rw [h1] at h
        have := pAttr_pos h1
        have := pAttrs_pos f _ _ _ _ _ _ h
        omega
    · cases h; exact Nat.le_refl _
theorem pOpen_pos {parent : Int} {deep count : Nat} {l l' : B} {a a' : Nat} {n : PNode} (h : pOpen parent deep count l a = .ok (n, l', a')) : a < a' := by
  unfold pOpen at h
  split at h
  · cases h
  · split at h
    · cases h
    · unfold pMust at h
      split at h
      · simp only [Ans.ok_then] at h
        cases h1 : pName (l.drop ([60] : B).length) (a + ([60] : B).length) with
        | bad g => rw [h1] at h; cases h
        | ok x =>
          obtain ⟨nm, l2, a2⟩ := x
          rw [h1] at h
          simp only [Ans.ok_then] at h
          cases h2 : pAttrs (l2.length + 1) [] l2 a2 with
          | bad g => rw [h2] at h; cases h
          | ok y =>
            obtain ⟨al, l3, a3⟩ := y
            rw [h2] at h
            simp only [Ans.ok_then] at h
            have h3 := (pName_ok h1).2.2.1
            have h4 := pAttrs_pos _ _ _ _ _ _ _ h2
            split at h
            · simp only [Ans.ok_then, Ans.ok.injEq, Prod.mk.injEq] at h
              obtain ⟨_, _, rfl⟩ := h
              simp only [List.length_singleton] at h3
              omega
            · cases h
      · cases h
theorem pItems_pos : ∀ (f : Nat) (parent : Int) (deep : Nat) (ns ns' : List PNode) (l l' : B) (a a' : Nat), pItems f parent deep ns l a = .ok (ns', l', a') → a ≤ a'
  | 0, _, _, _, _, _, _, _, _, h => by cases h
  | f + 1, parent, deep, ns, ns', l, l', a, a', h => by
    cases l with
    | nil => rw [pItems] at h; cases h; exact Nat.le_refl _
    | cons c t =>
      rw [pItems] at h
      split at h
      · cases h; exact Nat.le_refl _
      · split at h
        · split at h
          · cases h
          · have := pItems_pos f _ _ _ _ _ _ _ _ h; omega
        · split at h
          · cases h1 : pElem (pItems f) parent deep ns (c :: t) a with
            | bad g => rw [h1] at h; cases h
            | ok x =>
              obtain ⟨n2, l2, a2⟩ := x
              rw [h1] at h
              have h3 := pItems_pos f _ _ _ _ _ _ _ _ h
              have : a < a2 := by
                unfold pElem at h1
                cases h4 : pOpen parent deep ns.length (c :: t) a with
                | bad g => rw [h4] at h1; cases h1
                | ok y =>
                  obtain ⟨n, l5, a5⟩ := y
                  rw [h4] at h1
                  simp only [Ans.ok_then] at h1
                  have h6 := pOpen_pos h4
                  cases h7 : pInside (pItems f) deep ns n l5 a5 with
                  | bad g => rw [h7] at h1; cases h1
                  | ok z =>
                    obtain ⟨n8, l8, a8⟩ := z
                    rw [h7] at h1
                    simp only [Ans.ok_then] at h1
                    have h9 : a5 ≤ a8 := by
                      unfold pInside at h7
                      split at h7
                      · split at h7
                        · cases h7
                        · cases h7; omega
                      · exact pItems_pos f _ _ _ _ _ _ _ _ h7
                    unfold pMust at h1
                    split at h1
                    · simp only [Ans.ok_then, Ans.ok.injEq, Prod.mk.injEq] at h1
                      obtain ⟨_, _, rfl⟩ := h1
                      omega
                    · cases h1
              omega
          · split at h
            · have := pItems_pos f _ _ _ _ _ _ _ _ h; omega
            · cases h
theorem pElem_pos {f : Nat} {parent : Int} {deep : Nat} {ns ns' : List PNode} {l l' : B} {a a' : Nat} (h1 : pElem (pItems f) parent deep ns l a = .ok (ns', l', a')) : a < a' := by
  unfold pElem at h1
  cases h4 : pOpen parent deep ns.length l a with
  | bad g => rw [h4] at h1; cases h1
  | ok y =>
    obtain ⟨n, l5, a5⟩ := y
    rw [h4] at h1
    simp only [Ans.ok_then] at h1
    have h6 := pOpen_pos h4
    cases h7 : pInside (pItems f) deep ns n l5 a5 with
    | bad g => rw [h7] at h1; cases h1
    | ok z =>
      obtain ⟨n8, l8, a8⟩ := z
      rw [h7] at h1
      simp only [Ans.ok_then] at h1
      have h9 : a5 ≤ a8 := by
        unfold pInside at h7
        split at h7
        · split at h7
          · cases h7
          · cases h7; omega
        · exact pItems_pos f _ _ _ _ _ _ _ _ h7
      unfold pMust at h1
      split at h1
      · simp only [Ans.ok_then, Ans.ok.injEq, Prod.mk.injEq] at h1
        obtain ⟨_, _, rfl⟩ := h1
        omega
      · cases h1
theorem is_is (word : B) (x : Bool) (w : World) (b : Nat) (s : B) (at_ : Nat) (v : Value) (h : RdAt w b s at_ v) (hx : word.isPrefixOf (s.drop at_) = x) :
    Calls Tryz.prog 66 #[.pointer (some ⟨b, 0, none⟩), .string (str word)] w fun e w' => e = .returned (.bool x) ∧ ∃ n, w' = w.drewN n := by
  have := is_any word w b s at_ v h; rw [hx] at this; exact this
structure ItemsLoop (w wr : World) (base b : Nat) (s : B) (v : Value) (parent : Int) (deep fuel : Nat) (r : Ans (List PNode × B × Nat)) (k : Nat) (at' : Nat) (v' : Value) (ns' : List PNode) : Prop where
  rdr : Rdr wr base b s at' v' ns'
  kept : Kept (RdrS b v) w wr
  own : ∀ k, v'.ownBlock = some k → v.ownBlock = some k ∨ w.heap.size ≤ k
  rest : ∃ f, f + 1 ≤ fuel ∧ s.length - at' ≤ f ∧ pItems (f + 1) parent deep ns' (s.drop at') at' = r
  num : k = s.length - at'
theorem textOk_yes {c : UInt8} (h : pTextOk c = true) : (((c.toNat : Int) != 10) = false ∧ 10 ≤ (c.toNat : Int) ∧ (c.toNat : Int) ≤ 10) ∨ (((c.toNat : Int) != 10) = true ∧ 32 ≤ (c.toNat : Int) ∧ (c.toNat : Int) ≤ 126) := by
  simp [pTextOk] at h; simp; omega
theorem textOk_no {c : UInt8} (h : pTextOk c = false) : ((c.toNat : Int) != 10) = true ∧ ¬ (c.toNat : Int) = 10 ∧ ((c.toNat : Int) < 32 ∨ (32 ≤ (c.toNat : Int) ∧ 126 < (c.toNat : Int))) := by
  simp [pTextOk] at h; simp; omega
set_option maxRecDepth 100000 in
set_option maxHeartbeats 3200000 in
theorem items_any (s : B) (base b : Nat) (fuel : Nat) : ∀ (parent : Int) (deep : Nat) (ns : List PNode) (at_ : Nat) (v : Value) (w : World), s.length - at_ < fuel → deep ≤ 21 → Rdr w base b s at_ v ns →
    Calls Tryz.prog 37 #[.pointer (some ⟨b, 0, none⟩), .int .i64 parent, .int .i64 (deep : Int)] w (ItemsEnds w base b s v (pItems fuel parent deep ns (s.drop at_) at_)) := by
  induction fuel using Nat.strongRecOn with
  | _ fuel ih =>
  intro parent deep ns at_ v w hF hdeep h
  obtain ⟨r, HR⟩ : ∃ r, Hid (pItems fuel parent deep ns (s.drop at_) at_ = r) := ⟨_, rfl⟩
  rw [HR.out]
  have IH := Lib.hid ih
  have hstart : ItemsLoop w w base b s v parent deep fuel r (s.length - at_) at_ v ns := by
    cases fuel with
    | zero => omega
    | succ f => exact ⟨h, Kept.refl _ _, fun k hk => .inl hk, ⟨f, by omega, by omega, HR.out⟩, rfl⟩
  have HS := Lib.hid hstart
  clear ih hstart h
  go_enter Tryz.func37, Tryz.ntmps37
  go_wp2_with fail
  go_loopg [] (s.length - at_) (fun k wr => ∃ at' v' ns', ItemsLoop w wr base b s v parent deep fuel r k at' v' ns')
  case atStart => exact ⟨_, _, _, HS.out⟩
  case round =>
    obtain ⟨at', v', ns', hL⟩ := hrel
    have HL := Lib.hid hL
    have hr := hL.rdr.rd
    have c0 := hr.c0
    have c1 := hr.c1
    have f1 := hr.free 1
    have hl := hr.2.1
    have hm := hr.2.2
    obtain ⟨f, hf1, hf2, hR⟩ := hL.rest
    have hnum := hL.num
    clear hL
    by_cases hlt : at' < s.length
    · rw [pItems_eq _ _ _ _ _ _ hlt] at hR
      have H1 := Lib.hid hr
      clear hr
      cases hm1 : ([60, 47] : B).isPrefixOf (s.drop at') with
      | true =>
        rw [hm1, if_pos rfl] at hR
        subst hR
        have HM1 := Lib.hid hm1
        clear hm1
        go_wp2_with fail
        go_quiet ((go_at_call 66; exact Calls.quiet_of (is_is [60, 47] true _ b s at' v' H1.out HM1.out)))
        go_wp2_with fail
        go_end0
        exact ⟨v', rfl, HL.out.kept.drewN _, HL.out.rdr.quiet ⟨nq, rfl⟩, rfl, HL.out.own⟩
      | false =>
        rw [hm1, if_neg (by simp)] at hR
        have HM1 := Lib.hid hm1
        clear hm1
        cases hm2 : noteBegin.isPrefixOf (s.drop at') with
        | true =>
          rw [hm2, if_pos rfl] at hR
          have hp4 : at' + 4 ≤ s.length := by
            have := (List.isPrefixOf_iff_prefix.1 hm2).length_le
            rw [List.length_drop] at this
            simp only [noteBegin, List.length_cons, List.length_nil] at this
            omega
          have HM2 := Lib.hid hm2
          have HR2 := Lib.hid hR
          clear hm2 hR
          obtain ⟨mr, hmr⟩ := HL.out.rdr.room
          have hlen : (s.drop (at' + 4)).length < 4294967281 := by rw [List.length_drop]; omega
          go_wp2_with fail
          go_quiet ((go_at_call 66; exact Calls.quiet_of (is_is [60, 47] false _ b s at' v' H1.out HM1.out)))
          go_wp2_with fail
          refine (is_is noteBegin true _ b s at' v' (H1.out.drewN nq) HM2.out).mono ?_
          rintro e w1 ⟨rfl, hq1⟩
          have hqq : Qt wr w1 := Qt.trans ⟨nq, rfl⟩ hq1
          have h1 := HL.out.rdr.quiet hqq
          have hk1 := HL.out.kept.trans (hqq.kept _)
          clear c0 c1 f1 hq1 hqq
          have c0 := h1.rd.c0
          have c1 := h1.rd.c1
          have f1 := h1.rd.free 1
          have HR1 := Lib.hid h1
          have HK1 := Lib.hid hk1
          clear h1 hk1
          obtain ⟨mr, hmr⟩ := HR1.out.room
          cases hf : findSub noteEnd (s.drop (at' + 4)) with
          | none =>
            go_wp2_with fail
            go_quiet ((go_at_call 67; exact Calls.quiet_of_same (index_none _ noteEnd mr _ hlen hmr hf)))
            have hr0 : r = .bad ⟨2, s.length⟩ := by rw [← HR2.out, hf]
            subst hr0
            clear hf
            go_wp2_with (go_at_call 38; refine (fail_any 2 _ b s s.length _ ((HR1.out.quiet ⟨nq, rfl⟩).rd.set rfl (Nat.le_refl _))).mono ?_; rintro e w9 ⟨rfl, hq9⟩)
            exact ⟨rfl, rfl, (((HK1.out).drewN nq).setCell (p := ⟨b, 1, none⟩) (.inl (.inl rfl)) _).trans (hq9.kept _)⟩
          | some e =>
            have hfl := findSub_le _ _ _ hf
            rw [List.length_drop] at hfl
            have hsl : noteEnd.length = 3 := rfl
            rw [hsl] at hfl
            have hRR := HR2.out
            rw [hf] at hRR
            have HRR := Lib.hid hRR
            go_wp2_with fail
            go_quiet ((go_at_call 67; exact Calls.quiet_of_same (index_some _ noteEnd mr _ hlen hmr hf)))
            clear hf hRR
            go_wp2_with fail
            go_roundg (s.length - (at' + (4 + e + 3)))
            case measure => omega
            case rel =>
              cases f with
              | zero => omega
              | succ f =>
                exact ⟨at' + (4 + e + 3), v', ns', ⟨(HR1.out.quiet ⟨nq, rfl⟩).set (by omega) (by omega), ((HK1.out).drewN nq).setCell (p := ⟨b, 1, none⟩) (.inl (.inl rfl)) _, HL.out.own,
                  ⟨f, by omega, by omega, HRR.out⟩, rfl⟩⟩
        | false =>
          rw [hm2, if_neg (by simp)] at hR
          have HM2 := Lib.hid hm2
          clear hm2
          cases hm3 : ([60] : B).isPrefixOf (s.drop at') with
          | true =>
            rw [hm3, if_pos rfl] at hR
            have HM3 := Lib.hid hm3
            have HR2 := Lib.hid hR
            clear hm3 hR
            go_wp2_with fail
            go_quiet ((go_at_call 66; exact Calls.quiet_of (is_is [60, 47] false _ b s at' v' H1.out HM1.out)))
            go_wp2_with fail
            refine (is_is noteBegin false _ b s at' v' (H1.out.drewN nq) HM2.out).mono ?_
            rintro e w1 ⟨rfl, hq1⟩
            have hqq : Qt wr w1 := Qt.trans ⟨nq, rfl⟩ hq1
            have h1 := HL.out.rdr.quiet hqq
            have hk1 := HL.out.kept.trans (hqq.kept _)
            clear c0 c1 f1 hq1 hqq
            have c0 := h1.rd.c0
            have c1 := h1.rd.c1
            have f1 := h1.rd.free 1
            have HR1 := Lib.hid h1
            have HK1 := Lib.hid hk1
            clear h1 hk1
            go_wp2_with fail
            refine (is_is [60] true _ b s at' v' HR1.out.rd HM3.out).mono ?_
            rintro e w2 ⟨rfl, hq2⟩
            have H2 := Lib.hid (HR1.out.quiet hq2)
            have HK2 := Lib.hid (HK1.out.trans (Qt.kept hq2 _))
            clear hq2 c0 c1 f1
            go_wp2_with fail
            have hel := elem_any (pItems f) s base b f (fun parent deep ns a v w x1 x2 x3 => IH.out f (by omega) parent deep ns a v w x1 x2 x3) parent deep ns' at' v' w2 hf2 hdeep H2.out
            have hRR := HR2.out
            obtain ⟨ans, hans⟩ : ∃ ans, pElem (pItems f) parent deep ns' (s.drop at') at' = ans := ⟨_, rfl⟩
            have HANS := Lib.hid hans
            rw [hans] at hel hRR
            have HRR := Lib.hid hRR
            clear hans hRR
            refine hel.mono ?_
            clear hel
            have kept3 : ∀ w3 : World, Kept (RdrS b v') w2 w3 → Kept (RdrS b v) w w3 := fun w3 hk => HK2.out.trans' hk (fun i hi hs => by
              rcases hs with hs | hs
              · exact .inl hs
              · rcases HL.out.own i hs with h | h
                · exact .inr h
                · omega)
            have HK3 := Lib.hid kept3
            clear kept3
            cases ans with
            | bad f0 =>
              rintro e w3 ⟨rfl, hk3⟩
              obtain rfl : r = .bad f0 := by rw [← HRR.out]; rfl
              have HKK := Lib.hid (HK3.out _ hk3)
              clear hk3
              go_wp2_with fail
              exact ⟨rfl, rfl, HKK.out⟩
            | ok y =>
              obtain ⟨ns9, l9, at9⟩ := y
              rintro e w3 ⟨v9, rfl, hk9, hr9, rfl, hgv9⟩
              have HKK := Lib.hid (HK3.out _ hk9)
              have H9 := Lib.hid hr9
              have hpos := pElem_pos (HANS.out)
              have hl9 := hr9.rd.2.1
              have HGV : Hid (∀ k, v9.ownBlock = some k → v.ownBlock = some k ∨ w.heap.size ≤ k) := Lib.hid fun k hk => by
                rcases hgv9 k hk with h | h
                · exact HL.out.own k h
                · have := HK2.out.size; exact .inr (by omega)
              have hRR := HRR.out
              simp only [Ans.ok_then] at hRR
              have HRR2 := Lib.hid hRR
              clear hRR hk9 hr9 hgv9
              go_wp2_with fail
              go_roundg (s.length - at9)
              case measure => omega
              case rel =>
                cases f with
                | zero => omega
                | succ f => exact ⟨at9, v9, ns9, ⟨H9.out, HKK.out, HGV.out, ⟨f, by omega, by omega, HRR2.out⟩, rfl⟩⟩
          | false =>
            rw [hm3, if_neg (by simp)] at hR
            have HM3 := Lib.hid hm3
            have HR2 := Lib.hid hR
            clear hm3 hR
            go_wp2_with fail
            go_quiet ((go_at_call 66; exact Calls.quiet_of (is_is [60, 47] false _ b s at' v' H1.out HM1.out)))
            go_wp2_with fail
            refine (is_is noteBegin false _ b s at' v' (H1.out.drewN nq) HM2.out).mono ?_
            rintro e w1 ⟨rfl, hq1⟩
            have hqq : Qt wr w1 := Qt.trans ⟨nq, rfl⟩ hq1
            have h1 := HL.out.rdr.quiet hqq
            have hk1 := HL.out.kept.trans (hqq.kept _)
            clear c0 c1 f1 hq1 hqq
            have c0 := h1.rd.c0
            have c1 := h1.rd.c1
            have f1 := h1.rd.free 1
            have HR1 := Lib.hid h1
            have HK1 := Lib.hid hk1
            clear h1 hk1
            go_wp2_with fail
            refine (is_is [60] false _ b s at' v' HR1.out.rd HM3.out).mono ?_
            rintro e w2 ⟨rfl, hq2⟩
            have h2 := HR1.out.quiet hq2
            have hk2 := HK1.out.trans (Qt.kept hq2 _)
            clear hq2 c0 c1 f1
            have c0 := h2.rd.c0
            have c1 := h2.rd.c1
            have f1 := h2.rd.free 1
            have H2 := Lib.hid h2
            have HK2 := Lib.hid hk2
            clear h2 hk2
            have hi0 : (0 : Int) ≤ (at' : Int) := by omega
            have hi1 : (at' : Int) < (s.length : Int) := by omega
            go_wp2_with fail
            go_quiet (fail)
            have h2q := H2.out.quiet ⟨nq, rfl⟩
            have hk2q := HK2.out.drewN nq
            cases ht : pTextOk (s[at']'hlt) with
            | true =>
              have hRR := HR2.out
              rw [ht, if_pos rfl] at hRR
              have HRR := Lib.hid hRR
              clear hRR
              rcases textOk_yes ht with ⟨e1, e2, e3⟩ | ⟨e1, e2, e3⟩
              all_goals
                clear ht
                go_wp2
                go_roundg (s.length - (at' + 1))
                case measure => omega
                case rel =>
                  cases f with
                  | zero => omega
                  | succ f => exact ⟨at' + 1, v', ns', ⟨h2q.set (by omega) (by omega), hk2q.setCell (p := ⟨b, 1, none⟩) (.inl (.inl rfl)) _, HL.out.own, ⟨f, by omega, by omega, HRR.out⟩, rfl⟩⟩
            | false =>
              obtain rfl : r = .bad ⟨2, at'⟩ := by rw [← HR2.out, ht]; rfl
              obtain ⟨e1, en, e2⟩ := textOk_no ht
              rcases e2 with e2 | ⟨e2, e3⟩
              all_goals
                clear ht
                go_wp2_with (go_at_call 38; refine (fail_any 2 _ b s at' _ h2q.rd).mono ?_; rintro e w9 ⟨rfl, hq9⟩)
                all_goals first
                  | exact ⟨rfl, rfl, hk2q.trans (hq9.kept _)⟩
                  | (exfalso; rename_i hx; rcases hx with hx | hx; (rw [e1] at hx; cases hx); omega)
    · rw [pItems_end _ _ _ _ _ _ (by omega)] at hR
      subst hR
      have hd : decide (at' < s.length) = false := by simpa using hlt
      go_wp2_with fail
      go_quiet (fail)
      go_wp2_with fail
      go_end0
      exact ⟨v', rfl, HL.out.kept.drewN _, HL.out.rdr.quiet ⟨nq, rfl⟩, rfl, HL.out.own⟩
end Go.Proofs.YtplbdlgmjehckadGreatDoor

namespace Go.Proofs.YtplbdlgmjehckadGreatDoor
open Go.RowKit
set_option linter.unusedVariables false
set_option linter.unusedSimpArgs false
set_option maxHeartbeats 400000 in
theorem catch_panicking (lb fb : Nat) (f : Flt) (w : World) (v0 v1 v2 : Value) (hl : w.heap[lb]? = some (.cells #[v0] 29 (0,0))) (hf : w.heap[fb]? = some (.cells #[v1, v2] 26 (0,0))) (hne : ¬ lb = fb) :
    CallsD Tryz.prog 36 #[.pointer (some ⟨lb, 0, none⟩), .pointer (some ⟨fb, 0, none⟩)] (.panicking ({ v := oops f, recovered := false } :: [])) w fun e u' w' =>
      e = .returned (.tuple #[]) ∧ u' = .panicking ({ v := oops f, recovered := true } :: []) ∧ Kept (fun k => k = lb ∨ k = fb) w w' ∧
        w'.heap[lb]? = some (.cells #[.slice none 0 0] 29 (0,0)) ∧ w'.heap[fb]? = some (.cells #[.int .i64 f.err, .int .i64 f.pos] 26 (0,0)) := by
  refine callsD_of_wpS Tryz.func36 rfl fun c₀ cs hu => ?_
  apply wpS_seq
  apply wpS_region
  unfold oops at hu ⊢
  simp [wpOpsS, go_sem, recoverD, hu, Tryz.ntmps36, Exit.thenS]
  refine wpS_of_wp ?_
  have hg : eqGuard .eql 20 (.tmp 5) (.const .nilIface) (.iface 105 (.agg #[.int .i64 (f.err : Int), .int .i64 (f.pos : Int)])) .nilIface = pure () := rfl
  have hta : ∀ w, (Instr.typeAssert (.iface 105 (.agg #[.int .i64 (f.err : Int), .int .i64 (f.pos : Int)])) 20 105 true).run Tryz.prog w = .ok (.tuple #[.agg #[.int .i64 (f.err : Int), .int .i64 (f.pos : Int)], .bool true]) w := fun w => by kernel_rfl
  simp only [Array.replicate_succ, Array.replicate_zero, List.push_toArray, List.append_toArray, List.nil_append, List.cons_append, List.setIfInBounds_toArray, List.set_cons_succ, List.set_cons_zero]
  have l0 := cellIn hl 0 rfl
  have l0f := freeIn hl 0
  have g0 := cellIn hf 0 rfl
  have g1 := cellIn hf 1 rfl
  have g0f := freeIn hf 0
  have g1f := freeIn hf 1
  have hll := ltIn hl
  have hfl := ltIn hf
  go_wp2
  go_region
  go_wp2
  simp [bodyPostS, results, Tryz.results36]
  refine ⟨?_, ?_, ?_⟩
  · exact (((((Kept.refl (fun k => k = lb ∨ k = fb) w).setCell (p := ⟨lb, 0, none⟩) (.inl (.inl rfl)) _).setCell (p := ⟨fb, 0, none⟩) (.inl (.inr rfl)) _).setCell (p := ⟨fb, 1, none⟩) (.inl (.inr rfl)) _).alloc _).drew
  · have h1 := setIn hl 0 (.slice none 0 0)
    exact oldIn (otherIn (otherIn h1 _ _ hne) _ _ hne) _
  · have h1 := otherIn hf ⟨lb, 0, none⟩ (.slice none 0 0) (fun h => hne h.symm)
    exact oldIn (setIn (setIn h1 0 (.int .i64 f.err)) 1 (.int .i64 f.pos)) _
set_option maxHeartbeats 400000 in
theorem catch_idle (p q : Addr) (w : World) :
    CallsD Tryz.prog 36 #[.pointer (some p), .pointer (some q)] .returning w fun e u' w' => e = .returned (.tuple #[]) ∧ u' = .returning ∧ w' = w := by
  refine callsD_of_wpS Tryz.func36 rfl fun c₀ cs hu => ?_
  apply wpS_seq
  apply wpS_region
  simp [wpOpsS, go_sem, recoverD, hu, Tryz.ntmps36, Exit.thenS]
  refine wpS_of_wp ?_
  have hg : eqGuard .eql 20 (.tmp 5) (.const .nilIface) .nilIface .nilIface = pure () := rfl
  simp only [Array.replicate_succ, Array.replicate_zero, List.push_toArray, List.append_toArray, List.nil_append, List.cons_append, List.setIfInBounds_toArray, List.set_cons_succ, List.set_cons_zero]
  go_wp2
  cases c₀
  simp_all [bodyPostS, results, Tryz.results36]
theorem nodesAt_of_own {w : World} {base b : Nat} {v : Value} {ns : List PNode} (h : NodesOwn w base b v ns) : NodesAt w v ns := by
  obtain ⟨avs, h1, h2, h3⟩ := h
  exact ⟨avs, h1, rowsAt_of_owns zip_rows (by simp [h1]) h2, fun i n av hn ha => (h3 i n av hn ha).1⟩
def ParseEnds (w : World) (r : Ans (List PNode)) (e : Ending) (w' : World) : Prop :=
  match r with
  | .bad f => e = .returned (.tuple #[.slice none 0 0, .agg #[.int .i64 (f.err : Int), .int .i64 (f.pos : Int)]]) ∧ Below w.heap.size w w'
  | .ok ns => ∃ v, e = .returned (.tuple #[v, .agg #[.int .i64 0, .int .i64 0]]) ∧ Below w.heap.size w w' ∧ NodesAt w' v ns
theorem attrs_past {w w' : World} {l f : Nat} {t1 t2 : TypeId} {v : Value} {al : List PAttr} (hl : w.heap[l]? = some (.cells #[.slice none 0 0] t1 (0, 0))) (hf : w.heap[f]? = some (.cells #[.int .i64 0, .int .i64 0] t2 (0, 0)))
    (hk : Kept (fun k => k = l ∨ k = f) w w') (h : AttrsAt w v al) : AttrsAt w' v al := by
  obtain ⟨a, cap, rfl, h1, h2, h3⟩ := h
  refine ⟨a, cap, rfl, h1, h2, fun hne => ?_⟩
  obtain ⟨b, off, rfl, h4⟩ := h3 hne
  have hb : ¬ (b = l ∨ b = f) := by
    cases al with
    | nil => exact absurd rfl hne
    | cons a al =>
      have h5 := h4 0 (attrCells a) rfl 0 (.string (str a.name)) rfl
      rintro (rfl | rfl)
      · rw [cell_of_row w b _ _ _ _ hl] at h5
        cases off with
        | zero => simp at h5
        | succ n => simp at h5
      · rw [cell_of_row w b _ _ _ _ hf] at h5
        match off, h5 with
        | 0, h5 => simp at h5
        | 1, h5 => simp at h5
        | n + 2, h5 => simp at h5
  exact ⟨b, off, rfl, fun i r hr j c hc => hk.cell hb (h4 i r hr j c hc)⟩
theorem nodes_past {w w' : World} {base b l f : Nat} {t1 t2 : TypeId} {v : Value} {ns : List PNode} (hl : w.heap[l]? = some (.cells #[.slice none 0 0] t1 (0, 0))) (hf : w.heap[f]? = some (.cells #[.int .i64 0, .int .i64 0] t2 (0, 0)))
    (hk : Kept (fun k => k = l ∨ k = f) w w') (h : NodesOwn w base b v ns) (hv : ∀ k, v.ownBlock = some k → ¬ (k = l ∨ k = f)) : NodesAt w' v ns := by
  obtain ⟨avs, h1, h2, h3⟩ := h
  exact ⟨avs, h1, (rowsAt_of_owns zip_rows (by simp [h1]) h2).kept hk hv, fun i n av hn ha => attrs_past hl hf hk (h3 i n av hn ha).1⟩
def startW (w : World) (s : B) : World :=
  ((w.alloc (.cells #[.slice none 0 0] 29 (0,0))).alloc (.cells #[.int .i64 0, .int .i64 0] 26 (0,0))).alloc (.cells #[.string (str s), .int .i64 0, .slice none 0 0] 108 (0,0))
theorem start_size (w : World) (s : B) : (startW w s).heap.size = w.heap.size + 3 := by simp [startW]
theorem start_kept (w : World) (s : B) : Kept (fun _ => False) w (startW w s) := (((Kept.refl (fun _ => False) w).alloc _).alloc _).alloc _
theorem start_l (w : World) (s : B) : (startW w s).heap[w.heap.size]? = some (.cells #[.slice none 0 0] 29 (0,0)) := oldIn (oldIn (newIn w _) _) _
theorem start_f (w : World) (s : B) : (startW w s).heap[w.heap.size + 1]? = some (.cells #[.int .i64 0, .int .i64 0] 26 (0,0)) := by
  have := newIn (w.alloc (.cells #[.slice none 0 0] 29 (0,0))) (.cells #[.int .i64 0, .int .i64 0] 26 (0,0))
  simp only [show (w.alloc (.cells #[.slice none 0 0] 29 (0,0))).heap.size = w.heap.size + 1 from by simp] at this
  exact oldIn this _
theorem start_rdr (w : World) (s : B) (m : Int) (hm : w.cell? ⟨0, 0, none⟩ = some (.int .i64 m)) (hs : s.length ≤ 6000) : Rdr (startW w s) (w.heap.size + 3) (w.heap.size + 2) s 0 (.slice none 0 0) [] := by
  have h0 : 0 < w.heap.size := World.block_lt_of_cell? w _ hm
  refine ⟨⟨?_, Nat.zero_le _, hs⟩, ⟨[], rfl, ⟨rfl, .inl ⟨rfl, rfl⟩⟩, fun i n av hn => by simp at hn⟩, by omega, by rw [start_size]; exact Nat.le_refl _, by simp, ⟨m, (start_kept w s).cell (fun h => h) hm⟩, by omega⟩
  have := newIn ((w.alloc (.cells #[.slice none 0 0] 29 (0,0))).alloc (.cells #[.int .i64 0, .int .i64 0] 26 (0,0))) (.cells #[.string (str s), .int .i64 0, .slice none 0 0] 108 (0,0))
  simp only [show ((w.alloc (.cells #[.slice none 0 0] 29 (0,0))).alloc (.cells #[.int .i64 0, .int .i64 0] 26 (0,0))).heap.size = w.heap.size + 2 from by simp] at this
  exact this
set_option maxHeartbeats 1600000 in
theorem parse_any (s : B) (w : World) (m : Int) (hm : w.cell? ⟨0, 0, none⟩ = some (.int .i64 m)) (hs : s.length ≤ 9223372036854775807) :
    Calls Tryz.prog 20 #[.string (str s)] w (ParseEnds w (pParse s)) := by
  obtain ⟨r, HR⟩ : ∃ r, Hid (pParse s = r) := ⟨_, rfl⟩
  rw [HR.out]
  have HM := Lib.hid hm
  clear hm
  have hmf : ∀ (fn : Fn) (first cap : Array Value) (w : World), (Instr.makeFunc fn first cap).run Tryz.prog w = .ok (.func fn first cap) w := fun _ _ _ _ => rfl
  by_cases hl : 6000 < s.length
  · obtain rfl : r = .bad ⟨4, 0⟩ := by rw [← HR.out]; unfold pParse; rw [if_pos hl]
    have hlI : 6000 < (s.length : Int) := by omega
    have hsz : ((str s).size : Int) = s.length := by rw [str_size]
    go_enter_defers Tryz.func20, Tryz.ntmps20
    go_wp2
    clear hmf HR HM
    simp [bodyPostD, Leaves, settle, results, Tryz.results20, go_sem]
    exact ⟨rfl, (((Kept.refl (fun _ => False) w).alloc _).alloc _).below⟩
  · have hE := HR.out
    unfold pParse at hE
    rw [if_neg hl] at hE
    have HE := Lib.hid hE
    clear hE
    have hsz : ((str s).size : Int) = s.length := by rw [str_size]
    go_enter_defers Tryz.func20, Tryz.ntmps20
    go_wp2_with fail
    refine (items_any s (w.heap.size + 3) (w.heap.size + 2) (s.length + 1) (-1) 1 [] 0 (.slice none 0 0) _ (by omega) (by omega) ?_).mono ?_
    · exact start_rdr w s m HM.out (by omega)
    · rw [List.drop_zero]
      have hk0 := start_kept w s
      have hl0 := start_l w s
      have hf0 := start_f w s
      change ∀ (e : Ending) (w' : World), ItemsEnds (startW w s) _ _ _ _ _ e w' → _
      have HK0 := Lib.hid hk0
      have HL0 := Lib.hid hl0
      have HF0 := Lib.hid hf0
      have hsz0 := start_size w s
      clear hk0 hl0 hf0
      have hr : ((pItems (s.length + 1) (-1) 1 [] s 0).then fun x => if x.2.1 = [] then Ans.ok x.1 else .bad ⟨2, x.2.2⟩) = r := HE.out
      generalize startW w s = w0 at *
      cases hp : pItems (s.length + 1) (-1) 1 [] s 0 with
      | bad f =>
        rw [hp] at hr
        obtain rfl : r = .bad f := hr.symm
        rintro e w' ⟨rfl, hk⟩
        clear hmf HR HE HM hp hr
        simp only [bodyPostD]
        refine leaves_cons (f := 36) (args := #[.pointer (some ⟨w.heap.size, 0, none⟩), .pointer (some ⟨w.heap.size + 1, 0, none⟩)]) (by simp) (by simp [go_sem]) ?_
        refine (catch_panicking w.heap.size (w.heap.size + 1) f w' _ _ _ (hk.heap (fun hs => by rcases hs with hs | hs; exact absurd hs (by omega); cases hs) HL0.out) (hk.heap (fun hs => by rcases hs with hs | hs; exact absurd hs (by omega); cases hs) HF0.out) (by omega)).mono ?_
        rintro e u' w2 ⟨rfl, rfl, hk2, hl2, hf2⟩
        have l0 := cellIn hl2 0 rfl
        have g0 := cellIn hf2 0 rfl
        have g1 := cellIn hf2 1 rfl
        simp [Leaves, settle, results, Tryz.results20, go_sem, l0, g0, g1]
        exact ⟨rfl, ((HK0.out.trans' hk (fun i hi hs => by rcases hs with hs | hs; exact absurd hs (by omega); cases hs)).trans' hk2 (fun i hi hs => by rcases hs with hs | hs <;> omega)).below⟩
      | ok x =>
        obtain ⟨ns, l', at'⟩ := x
        rw [hp] at hr
        simp only [Ans.ok_then] at hr
        rintro e w' ⟨v', rfl, hk, hrd0, rfl, hown⟩
        have hrd : Rdr w' (w.heap.size + 3) (w.heap.size + 1 + 1) s at' v' ns := hrd0
        clear hrd0 HE hp
        obtain ⟨a9, n9, cap9, rfl⟩ : ∃ a n cap, v' = .slice a n cap := by
          obtain ⟨_, _, ⟨a, cap, e, _⟩, _⟩ := nodesAt_of_own hrd.nodes
          exact ⟨a, _, cap, e⟩
        have c0 := hrd.c0
        have c1 := hrd.rd.c1
        have c2 := hrd.rd.c2
        have hl := hk.heap (fun hs => by rcases hs with hs | hs; exact absurd hs (by omega); cases hs) HL0.out
        have hf := hk.heap (fun hs => by rcases hs with hs | hs; exact absurd hs (by omega); cases hs) HF0.out
        have l0 : w'.cell? ⟨w.heap.size, 0, none⟩ = some (.slice none 0 0) := cellIn hl 0 rfl
        have l0f := freeIn hl 0
        have g0 : w'.cell? ⟨w.heap.size + 1, 0, none⟩ = some (.int .i64 0) := cellIn hf 0 rfl
        have g1 : w'.cell? ⟨w.heap.size + 1, 1, none⟩ = some (.int .i64 0) := cellIn hf 1 rfl
        have g0f := freeIn hf 0
        have g1f := freeIn hf 1
        have hlt := hrd.rd.2.1
        have HF := Lib.hid hf
        have HL := Lib.hid hl
        have HRD := Lib.hid hrd
        clear hl hf hrd
        by_cases hend : at' = s.length
        · obtain rfl : r = .ok ns := by rw [← hr, if_pos (by rw [hend]; simp)]
          have hd : decide ((at' : Int) < (s.length : Int)) = false := by simp; omega
          subst hend
          clear hr
          go_wp2_with fail
          go_region
          go_wp2_with fail
          clear hmf HR HM
          simp only [bodyPostD]
          refine leaves_cons (f := 36) (args := #[.pointer (some ⟨w.heap.size, 0, none⟩), .pointer (some ⟨w.heap.size + 1, 0, none⟩)]) (by simp) (by simp [go_sem]) ?_
          refine (catch_idle _ _ _).mono ?_
          rintro e u' w2 ⟨rfl, rfl, hw2⟩
          have hkF : Kept (fun k => k = w.heap.size ∨ k = w.heap.size + 1) w' w2 := by
            rw [hw2]
            exact ((((Kept.refl _ w').setCell (p := ⟨w.heap.size, 0, none⟩) (.inl (.inl rfl)) _).setCell (p := ⟨w.heap.size + 1, 0, none⟩) (.inl (.inr rfl)) _).setCell (p := ⟨w.heap.size + 1, 1, none⟩) (.inl (.inr rfl)) _).drew
          have l1 : w2.cell? ⟨w.heap.size, 0, none⟩ = some (.slice a9 n9 cap9) := by
            rw [hw2]
            exact cellIn (otherIn (otherIn (setIn HL.out 0 _) ⟨w.heap.size + 1, 0, none⟩ _ (by show w.heap.size ≠ w.heap.size + 1; omega)) ⟨w.heap.size + 1, 1, none⟩ _ (by show w.heap.size ≠ w.heap.size + 1; omega)) 0 rfl
          have hf1 : w2.heap[w.heap.size + 1]? = some (.cells #[.int .i64 0, .int .i64 0] 26 (0, 0)) := by
            rw [hw2]
            exact setIn (setIn (otherIn HF.out ⟨w.heap.size, 0, none⟩ (.slice a9 n9 cap9) (by show w.heap.size + 1 ≠ w.heap.size; omega)) 0 (.int .i64 0)) 1 (.int .i64 0)
          have g2 : w2.cell? ⟨w.heap.size + 1, 0, none⟩ = some (.int .i64 0) := cellIn hf1 0 rfl
          have g3 : w2.cell? ⟨w.heap.size + 1, 1, none⟩ = some (.int .i64 0) := cellIn hf1 1 rfl
          clear hw2 l0 g0 g1 hf1 c0 c1 c2
          simp [Leaves, settle, results, Tryz.results20, go_sem, l1, g2, g3]
          refine ⟨_, rfl, ((HK0.out.trans' hk (fun i hi hs => by rcases hs with hs | hs; exact absurd hs (by omega); cases hs)).trans' hkF (fun i hi hs => by rcases hs with hs | hs <;> omega)).below, nodes_past HL.out HF.out hkF HRD.out.nodes ?_⟩
          intro k hk' hs
          rcases hown k hk' with h | h
          · cases h
          · omega
        · obtain rfl : r = .bad ⟨2, at'⟩ := by
            rw [← hr, if_neg]
            intro he
            have := congrArg List.length he
            simp at this
            omega
          have hd : (at' : Int) < (s.length : Int) := by omega
          clear hr
          go_wp2_with fail
          refine (fail_any 2 _ _ s at' _ HRD.out.rd).mono ?_
          rintro e w3 ⟨rfl, hq⟩
          have hl3 := (hq.kept (fun _ => False)).heap id HL.out
          have hf3 := (hq.kept (fun _ => False)).heap id HF.out
          have hk3 := hk.trans (hq.kept _)
          clear hmf HR HM hq
          simp only [bodyPostD]
          refine leaves_cons (f := 36) (args := #[.pointer (some ⟨w.heap.size, 0, none⟩), .pointer (some ⟨w.heap.size + 1, 0, none⟩)]) (by simp) (by simp [go_sem]) ?_
          refine (catch_panicking w.heap.size (w.heap.size + 1) ⟨2, at'⟩ w3 _ _ _ hl3 hf3 (by omega)).mono ?_
          rintro e u' w2 ⟨rfl, rfl, hk2, hl2, hf2⟩
          have l0 := cellIn hl2 0 rfl
          have g0 := cellIn hf2 0 rfl
          have g1 := cellIn hf2 1 rfl
          simp [Leaves, settle, results, Tryz.results20, go_sem, l0, g0, g1]
          exact ⟨rfl, ((HK0.out.trans' hk3 (fun i hi hs => by rcases hs with hs | hs; exact absurd hs (by omega); cases hs)).trans' hk2 (fun i hi hs => by rcases hs with hs | hs <;> omega)).below⟩
end Go.Proofs.YtplbdlgmjehckadGreatDoor

namespace Go.Proofs.YtplbdlgmjehckadGreatDoor
open Go.RowKit
set_option linter.unusedVariables false
set_option linter.unusedSimpArgs false
theorem nTests_lim {s : PSel} (h : selLim s) : nTests s ≤ 36 := by
  have key : ∀ ps : List PPart, (∀ p ∈ ps, p.tests.length ≤ 6) → (ps.map fun p => p.tests.length).sum ≤ 6 * ps.length := by
    intro ps
    induction ps with
    | nil => intro _; simp
    | cons p ps ih =>
      intro hp
      have := ih fun q hq => hp q (by simp [hq])
      have := hp p (by simp)
      simp
      omega
  have := key s h.2
  have := h.1
  unfold nTests
  omega
theorem RuleLim.few {r : PRule} (h : RuleLim r) : FewTests r.sels := ⟨by have := h.sels; omega, fun s hs => by have := nTests_lim (h.parts s hs); omega⟩
theorem nDecls_lim : ∀ {rs : List PRule}, (∀ r ∈ rs, RuleLim r) → nDecls rs ≤ 20 * rs.length
  | [], _ => by simp [nDecls]
  | r :: rs, h => by
    have := nDecls_lim (rs := rs) fun q hq => h q (List.mem_cons_of_mem _ hq)
    have := (h r (by simp)).decls
    simp [nDecls] at *
    omega
theorem ReadLim.mt {s : B} {l : List PNode} {rules : List PRule} (h : ReadLim s l rules) : MtCtx l := by
  have hl := h.len
  refine ⟨fun n hn a ha => ?_, by have := h.nodes; omega, fun n hn => ?_⟩
  · have := (h.node n hn).attrs a ha; omega
  · have := (h.node n hn).parent; omega
theorem ReadLim.ca {s : B} {l : List PNode} {rules : List PRule} (h : ReadLim s l rules) {gone : List PRule} (hg : ∀ r ∈ gone, r ∈ rules) (hn : gone.length ≤ rules.length) : CaCtx l gone := by
  have hm := h.most
  have hr : ∀ r ∈ gone, RuleLim r := fun r hr => (h.rule r (hg r hr)).1
  refine ⟨h.mt, fun r hr' => (hr r hr').few, fun r hr' d hd => ?_, fun r hr' => ?_, ?_, by omega⟩
  · have := (hr r hr').each d hd; omega
  · have := (hr r hr').decls; omega
  · have := nDecls_lim hr; omega
end Go.Proofs.YtplbdlgmjehckadGreatDoor

