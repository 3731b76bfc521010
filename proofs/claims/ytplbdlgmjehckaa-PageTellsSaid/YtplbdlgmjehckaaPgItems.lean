/-
  The reader of pages: items, and Parse.
-/
import Derived.Test.YtplbdlgmjehckaaPgElem
namespace Go.Proofs.Ytplbdlgmjehckaa
open Go.RowKit
set_option linter.unusedVariables false
set_option linter.unusedSimpArgs false

theorem pItems_eq (f : Nat) (parent : Int) (deep : Nat) (ns : List PNode) (s : B) (a : Nat) (ha : a < s.length) : pItems (f + 1) parent deep ns (s.drop a) a =
    (if ([60, 47] : B).isPrefixOf (s.drop a) then .ok (ns, s.drop a, a)
    else if noteBegin.isPrefixOf (s.drop a) then
      match findSub noteEnd (s.drop (a + 4)) with
      | none => .bad ⟨2, s.length⟩
      | some e => pItems f parent deep ns (s.drop (a + (4 + e + 3))) (a + (4 + e + 3))
    else if ([60] : B).isPrefixOf (s.drop a) then (pElem (pItems f) parent deep ns (s.drop a) a).then fun (ns', l', at') => pItems f parent deep ns' l' at'
    else if pTextOk (s[a]'ha) then pItems f parent deep ns (s.drop (a + 1)) (a + 1)
    else .bad ⟨2, a⟩) := by
  have e := List.drop_eq_getElem_cons ha
  have el : (s[a] :: s.drop (a + 1)).length = s.length - a := by rw [← e]; exact List.length_drop
  have ed : ∀ k, (s[a] :: s.drop (a + 1)).drop k = s.drop (a + k) := fun k => by rw [← e, List.drop_drop]
  rw [e, pItems, el, show a + (s.length - a) = s.length from by omega]
  simp only [ed]
  rfl
theorem pItems_end (f : Nat) (parent : Int) (deep : Nat) (ns : List PNode) (s : B) (a : Nat) (ha : s.length ≤ a) : pItems (f + 1) parent deep ns (s.drop a) a = .ok (ns, s.drop a, a) := by
  rw [List.drop_of_length_le ha]; rfl

theorem pAttrs_pos : ∀ (f : Nat) (al al' : List PAttr) (l l' : B) (a a' : Nat), pAttrs f al l a = .ok (al', l', a') → a ≤ a'
  | 0, _, _, _, _, _, _, h => by cases h
  | f + 1, al, al', l, l', a, a', h => by
    unfold pAttrs at h
    split at h
    · cases h1 : pAttr al l a with
      | bad g => rw [h1] at h; cases h
      | ok x =>
        obtain ⟨b, l2, a2⟩ := x
        rw [h1] at h
        have := pAttr_pos h1
        have := pAttrs_pos f _ _ _ _ _ _ h
        omega
    · cases h; exact Nat.le_refl _

theorem pOpen_pos {parent : Int} {deep count : Nat} {l l' : B} {a a' : Nat} {n : PNode} (h : pOpen parent deep count l a = .ok (n, l', a')) : a < a' := by
  unfold pOpen at h
  split at h
  · cases h
  · split at h
    · cases h
    · unfold pMust at h
      split at h
      · simp only [Ans.ok_then] at h
        cases h1 : pName (l.drop ([60] : B).length) (a + ([60] : B).length) with
        | bad g => rw [h1] at h; cases h
        | ok x =>
          obtain ⟨nm, l2, a2⟩ := x
          rw [h1] at h
          simp only [Ans.ok_then] at h
          cases h2 : pAttrs (l2.length + 1) [] l2 a2 with
          | bad g => rw [h2] at h; cases h
          | ok y =>
            obtain ⟨al, l3, a3⟩ := y
            rw [h2] at h
            simp only [Ans.ok_then] at h
            have h3 := (pName_ok h1).2.2.1
            have h4 := pAttrs_pos _ _ _ _ _ _ _ h2
            split at h
            · simp only [Ans.ok_then, Ans.ok.injEq, Prod.mk.injEq] at h
              obtain ⟨_, _, rfl⟩ := h
              simp only [List.length_singleton] at h3
              omega
            · cases h
      · cases h

theorem pItems_pos : ∀ (f : Nat) (parent : Int) (deep : Nat) (ns ns' : List PNode) (l l' : B) (a a' : Nat), pItems f parent deep ns l a = .ok (ns', l', a') → a ≤ a'
  | 0, _, _, _, _, _, _, _, _, h => by cases h
  | f + 1, parent, deep, ns, ns', l, l', a, a', h => by
    cases l with
    | nil => rw [pItems] at h; cases h; exact Nat.le_refl _
    | cons c t =>
      rw [pItems] at h
      split at h
      · cases h; exact Nat.le_refl _
      · split at h
        · split at h
          · cases h
          · have := pItems_pos f _ _ _ _ _ _ _ _ h; omega
        · split at h
          · cases h1 : pElem (pItems f) parent deep ns (c :: t) a with
            | bad g => rw [h1] at h; cases h
            | ok x =>
              obtain ⟨n2, l2, a2⟩ := x
              rw [h1] at h
              have h3 := pItems_pos f _ _ _ _ _ _ _ _ h
              have : a < a2 := by
                unfold pElem at h1
                cases h4 : pOpen parent deep ns.length (c :: t) a with
                | bad g => rw [h4] at h1; cases h1
                | ok y =>
                  obtain ⟨n, l5, a5⟩ := y
                  rw [h4] at h1
                  simp only [Ans.ok_then] at h1
                  have h6 := pOpen_pos h4
                  cases h7 : pInside (pItems f) deep ns n l5 a5 with
                  | bad g => rw [h7] at h1; cases h1
                  | ok z =>
                    obtain ⟨n8, l8, a8⟩ := z
                    rw [h7] at h1
                    simp only [Ans.ok_then] at h1
                    have h9 : a5 ≤ a8 := by
                      unfold pInside at h7
                      split at h7
                      · split at h7
                        · cases h7
                        · cases h7; omega
                      · exact pItems_pos f _ _ _ _ _ _ _ _ h7
                    unfold pMust at h1
                    split at h1
                    · simp only [Ans.ok_then, Ans.ok.injEq, Prod.mk.injEq] at h1
                      obtain ⟨_, _, rfl⟩ := h1
                      omega
                    · cases h1
              omega
          · split at h
            · have := pItems_pos f _ _ _ _ _ _ _ _ h; omega
            · cases h

theorem pElem_pos {f : Nat} {parent : Int} {deep : Nat} {ns ns' : List PNode} {l l' : B} {a a' : Nat} (h1 : pElem (pItems f) parent deep ns l a = .ok (ns', l', a')) : a < a' := by
  unfold pElem at h1
  cases h4 : pOpen parent deep ns.length l a with
  | bad g => rw [h4] at h1; cases h1
  | ok y =>
    obtain ⟨n, l5, a5⟩ := y
    rw [h4] at h1
    simp only [Ans.ok_then] at h1
    have h6 := pOpen_pos h4
    cases h7 : pInside (pItems f) deep ns n l5 a5 with
    | bad g => rw [h7] at h1; cases h1
    | ok z =>
      obtain ⟨n8, l8, a8⟩ := z
      rw [h7] at h1
      simp only [Ans.ok_then] at h1
      have h9 : a5 ≤ a8 := by
        unfold pInside at h7
        split at h7
        · split at h7
          · cases h7
          · cases h7; omega
        · exact pItems_pos f _ _ _ _ _ _ _ _ h7
      unfold pMust at h1
      split at h1
      · simp only [Ans.ok_then, Ans.ok.injEq, Prod.mk.injEq] at h1
        obtain ⟨_, _, rfl⟩ := h1
        omega
      · cases h1

theorem is_is (word : B) (x : Bool) (w : World) (b : Nat) (s : B) (at_ : Nat) (v : Value) (h : RdAt w b s at_ v) (hx : word.isPrefixOf (s.drop at_) = x) :
    Calls Try.prog 26 #[.pointer (some ⟨b, 0, none⟩), .string (str word)] w fun e w' => e = .returned (.bool x) ∧ ∃ n, w' = w.drewN n := by
  have := is_any word w b s at_ v h; rw [hx] at this; exact this

structure ItemsLoop (w wr : World) (base b : Nat) (s : B) (v : Value) (parent : Int) (deep fuel : Nat) (r : Ans (List PNode × B × Nat)) (k : Nat) (at' : Nat) (v' : Value) (ns' : List PNode) : Prop where
  rdr : Rdr wr base b s at' v' ns'
  kept : Kept (RdrS b v) w wr
  own : ∀ k, v'.ownBlock = some k → v.ownBlock = some k ∨ w.heap.size ≤ k
  rest : ∃ f, f + 1 ≤ fuel ∧ s.length - at' ≤ f ∧ pItems (f + 1) parent deep ns' (s.drop at') at' = r
  num : k = s.length - at'

theorem textOk_yes {c : UInt8} (h : pTextOk c = true) : (((c.toNat : Int) != 10) = false ∧ 10 ≤ (c.toNat : Int) ∧ (c.toNat : Int) ≤ 10) ∨ (((c.toNat : Int) != 10) = true ∧ 32 ≤ (c.toNat : Int) ∧ (c.toNat : Int) ≤ 126) := by
  simp [pTextOk] at h; simp; omega
theorem textOk_no {c : UInt8} (h : pTextOk c = false) : ((c.toNat : Int) != 10) = true ∧ ¬ (c.toNat : Int) = 10 ∧ ((c.toNat : Int) < 32 ∨ (32 ≤ (c.toNat : Int) ∧ 126 < (c.toNat : Int))) := by
  simp [pTextOk] at h; simp; omega

set_option maxRecDepth 100000 in
set_option maxHeartbeats 3200000 in
theorem items_any (s : B) (base b : Nat) (fuel : Nat) : ∀ (parent : Int) (deep : Nat) (ns : List PNode) (at_ : Nat) (v : Value) (w : World), s.length - at_ < fuel → deep ≤ 21 → Rdr w base b s at_ v ns →
    Calls Try.prog 19 #[.pointer (some ⟨b, 0, none⟩), .int .i64 parent, .int .i64 (deep : Int)] w (ItemsEnds w base b s v (pItems fuel parent deep ns (s.drop at_) at_)) := by
  induction fuel using Nat.strongRecOn with
  | _ fuel ih =>
  intro parent deep ns at_ v w hF hdeep h
  obtain ⟨r, HR⟩ : ∃ r, Hid (pItems fuel parent deep ns (s.drop at_) at_ = r) := ⟨_, rfl⟩
  rw [HR.out]
  have IH := Lib.hid ih
  have hstart : ItemsLoop w w base b s v parent deep fuel r (s.length - at_) at_ v ns := by
    cases fuel with
    | zero => omega
    | succ f => exact ⟨h, Kept.refl _ _, fun k hk => .inl hk, ⟨f, by omega, by omega, HR.out⟩, rfl⟩
  have HS := Lib.hid hstart
  clear ih hstart h
  go_enter Try.func19, Try.ntmps19
  go_wp2_with fail
  go_loopg [] (s.length - at_) (fun k wr => ∃ at' v' ns', ItemsLoop w wr base b s v parent deep fuel r k at' v' ns')
  case atStart => exact ⟨_, _, _, HS.out⟩
  case round =>
    obtain ⟨at', v', ns', hL⟩ := hrel
    have HL := Lib.hid hL
    have hr := hL.rdr.rd
    have c0 := hr.c0
    have c1 := hr.c1
    have f1 := hr.free 1
    have hl := hr.2.1
    have hm := hr.2.2
    obtain ⟨f, hf1, hf2, hR⟩ := hL.rest
    have hnum := hL.num
    clear hL
    by_cases hlt : at' < s.length
    · rw [pItems_eq _ _ _ _ _ _ hlt] at hR
      have H1 := Lib.hid hr
      clear hr
      cases hm1 : ([60, 47] : B).isPrefixOf (s.drop at') with
      | true =>
        rw [hm1, if_pos rfl] at hR
        subst hR
        have HM1 := Lib.hid hm1
        clear hm1
        go_wp2_with fail
        go_quiet ((go_at_call 26; exact Calls.quiet_of (is_is [60, 47] true _ b s at' v' H1.out HM1.out)))
        go_wp2_with fail
        go_end0
        exact ⟨v', rfl, HL.out.kept.drewN _, HL.out.rdr.quiet ⟨nq, rfl⟩, rfl, HL.out.own⟩
      | false =>
        rw [hm1, if_neg (by simp)] at hR
        have HM1 := Lib.hid hm1
        clear hm1
        cases hm2 : noteBegin.isPrefixOf (s.drop at') with
        | true =>
          rw [hm2, if_pos rfl] at hR
          have hp4 : at' + 4 ≤ s.length := by
            have := (List.isPrefixOf_iff_prefix.1 hm2).length_le
            rw [List.length_drop] at this
            simp only [noteBegin, List.length_cons, List.length_nil] at this
            omega
          have HM2 := Lib.hid hm2
          have HR2 := Lib.hid hR
          clear hm2 hR
          obtain ⟨mr, hmr⟩ := HL.out.rdr.room
          have hlen : (s.drop (at' + 4)).length < 4294967281 := by rw [List.length_drop]; omega
          go_wp2_with fail
          go_quiet ((go_at_call 26; exact Calls.quiet_of (is_is [60, 47] false _ b s at' v' H1.out HM1.out)))
          go_wp2_with fail
          refine (is_is noteBegin true _ b s at' v' (H1.out.drewN nq) HM2.out).mono ?_
          rintro e w1 ⟨rfl, hq1⟩
          have hqq : Qt wr w1 := Qt.trans ⟨nq, rfl⟩ hq1
          have h1 := HL.out.rdr.quiet hqq
          have hk1 := HL.out.kept.trans (hqq.kept _)
          clear c0 c1 f1 hq1 hqq
          have c0 := h1.rd.c0
          have c1 := h1.rd.c1
          have f1 := h1.rd.free 1
          have HR1 := Lib.hid h1
          have HK1 := Lib.hid hk1
          clear h1 hk1
          obtain ⟨mr, hmr⟩ := HR1.out.room
          cases hf : findSub noteEnd (s.drop (at' + 4)) with
          | none =>
            go_wp2_with fail
            go_quiet ((go_at_call 27; exact Calls.quiet_of_same (index_none _ noteEnd mr _ hlen hmr hf)))
            have hr0 : r = .bad ⟨2, s.length⟩ := by rw [← HR2.out, hf]
            subst hr0
            clear hf
            go_wp2_with (go_at_call 20; refine (fail_any 2 _ b s s.length _ ((HR1.out.quiet ⟨nq, rfl⟩).rd.set rfl (Nat.le_refl _))).mono ?_; rintro e w9 ⟨rfl, hq9⟩)
            exact ⟨rfl, rfl, (((HK1.out).drewN nq).setCell (p := ⟨b, 1, none⟩) (.inl (.inl rfl)) _).trans (hq9.kept _)⟩
          | some e =>
            have hfl := findSub_le _ _ _ hf
            rw [List.length_drop] at hfl
            have hsl : noteEnd.length = 3 := rfl
            rw [hsl] at hfl
            have hRR := HR2.out
            rw [hf] at hRR
            have HRR := Lib.hid hRR
            go_wp2_with fail
            go_quiet ((go_at_call 27; exact Calls.quiet_of_same (index_some _ noteEnd mr _ hlen hmr hf)))
            clear hf hRR
            go_wp2_with fail
            go_roundg (s.length - (at' + (4 + e + 3)))
            case measure => omega
            case rel =>
              cases f with
              | zero => omega
              | succ f =>
                exact ⟨at' + (4 + e + 3), v', ns', ⟨(HR1.out.quiet ⟨nq, rfl⟩).set (by omega) (by omega), ((HK1.out).drewN nq).setCell (p := ⟨b, 1, none⟩) (.inl (.inl rfl)) _, HL.out.own,
                  ⟨f, by omega, by omega, HRR.out⟩, rfl⟩⟩
        | false =>
          rw [hm2, if_neg (by simp)] at hR
          have HM2 := Lib.hid hm2
          clear hm2
          cases hm3 : ([60] : B).isPrefixOf (s.drop at') with
          | true =>
            rw [hm3, if_pos rfl] at hR
            have HM3 := Lib.hid hm3
            have HR2 := Lib.hid hR
            clear hm3 hR
            go_wp2_with fail
            go_quiet ((go_at_call 26; exact Calls.quiet_of (is_is [60, 47] false _ b s at' v' H1.out HM1.out)))
            go_wp2_with fail
            refine (is_is noteBegin false _ b s at' v' (H1.out.drewN nq) HM2.out).mono ?_
            rintro e w1 ⟨rfl, hq1⟩
            have hqq : Qt wr w1 := Qt.trans ⟨nq, rfl⟩ hq1
            have h1 := HL.out.rdr.quiet hqq
            have hk1 := HL.out.kept.trans (hqq.kept _)
            clear c0 c1 f1 hq1 hqq
            have c0 := h1.rd.c0
            have c1 := h1.rd.c1
            have f1 := h1.rd.free 1
            have HR1 := Lib.hid h1
            have HK1 := Lib.hid hk1
            clear h1 hk1
            go_wp2_with fail
            refine (is_is [60] true _ b s at' v' HR1.out.rd HM3.out).mono ?_
            rintro e w2 ⟨rfl, hq2⟩
            have H2 := Lib.hid (HR1.out.quiet hq2)
            have HK2 := Lib.hid (HK1.out.trans (Qt.kept hq2 _))
            clear hq2 c0 c1 f1
            go_wp2_with fail
            have hel := elem_any (pItems f) s base b f (fun parent deep ns a v w x1 x2 x3 => IH.out f (by omega) parent deep ns a v w x1 x2 x3) parent deep ns' at' v' w2 hf2 hdeep H2.out
            have hRR := HR2.out
            obtain ⟨ans, hans⟩ : ∃ ans, pElem (pItems f) parent deep ns' (s.drop at') at' = ans := ⟨_, rfl⟩
            have HANS := Lib.hid hans
            rw [hans] at hel hRR
            have HRR := Lib.hid hRR
            clear hans hRR
            refine hel.mono ?_
            clear hel
            have kept3 : ∀ w3 : World, Kept (RdrS b v') w2 w3 → Kept (RdrS b v) w w3 := fun w3 hk => HK2.out.trans' hk (fun i hi hs => by
              rcases hs with hs | hs
              · exact .inl hs
              · rcases HL.out.own i hs with h | h
                · exact .inr h
                · omega)
            have HK3 := Lib.hid kept3
            clear kept3
            cases ans with
            | bad f0 =>
              rintro e w3 ⟨rfl, hk3⟩
              obtain rfl : r = .bad f0 := by rw [← HRR.out]; rfl
              have HKK := Lib.hid (HK3.out _ hk3)
              clear hk3
              go_wp2_with fail
              exact ⟨rfl, rfl, HKK.out⟩
            | ok y =>
              obtain ⟨ns9, l9, at9⟩ := y
              rintro e w3 ⟨v9, rfl, hk9, hr9, rfl, hgv9⟩
              have HKK := Lib.hid (HK3.out _ hk9)
              have H9 := Lib.hid hr9
              have hpos := pElem_pos (HANS.out)
              have hl9 := hr9.rd.2.1
              have HGV : Hid (∀ k, v9.ownBlock = some k → v.ownBlock = some k ∨ w.heap.size ≤ k) := Lib.hid fun k hk => by
                rcases hgv9 k hk with h | h
                · exact HL.out.own k h
                · have := HK2.out.size; exact .inr (by omega)
              have hRR := HRR.out
              simp only [Ans.ok_then] at hRR
              have HRR2 := Lib.hid hRR
              clear hRR hk9 hr9 hgv9
              go_wp2_with fail
              go_roundg (s.length - at9)
              case measure => omega
              case rel =>
                cases f with
                | zero => omega
                | succ f => exact ⟨at9, v9, ns9, ⟨H9.out, HKK.out, HGV.out, ⟨f, by omega, by omega, HRR2.out⟩, rfl⟩⟩
          | false =>
            rw [hm3, if_neg (by simp)] at hR
            have HM3 := Lib.hid hm3
            have HR2 := Lib.hid hR
            clear hm3 hR
            go_wp2_with fail
            go_quiet ((go_at_call 26; exact Calls.quiet_of (is_is [60, 47] false _ b s at' v' H1.out HM1.out)))
            go_wp2_with fail
            refine (is_is noteBegin false _ b s at' v' (H1.out.drewN nq) HM2.out).mono ?_
            rintro e w1 ⟨rfl, hq1⟩
            have hqq : Qt wr w1 := Qt.trans ⟨nq, rfl⟩ hq1
            have h1 := HL.out.rdr.quiet hqq
            have hk1 := HL.out.kept.trans (hqq.kept _)
            clear c0 c1 f1 hq1 hqq
            have c0 := h1.rd.c0
            have c1 := h1.rd.c1
            have f1 := h1.rd.free 1
            have HR1 := Lib.hid h1
            have HK1 := Lib.hid hk1
            clear h1 hk1
            go_wp2_with fail
            refine (is_is [60] false _ b s at' v' HR1.out.rd HM3.out).mono ?_
            rintro e w2 ⟨rfl, hq2⟩
            have h2 := HR1.out.quiet hq2
            have hk2 := HK1.out.trans (Qt.kept hq2 _)
            clear hq2 c0 c1 f1
            have c0 := h2.rd.c0
            have c1 := h2.rd.c1
            have f1 := h2.rd.free 1
            have H2 := Lib.hid h2
            have HK2 := Lib.hid hk2
            clear h2 hk2
            have hi0 : (0 : Int) ≤ (at' : Int) := by omega
            have hi1 : (at' : Int) < (s.length : Int) := by omega
            go_wp2_with fail
            go_quiet (fail)
            have h2q := H2.out.quiet ⟨nq, rfl⟩
            have hk2q := HK2.out.drewN nq
            cases ht : pTextOk (s[at']'hlt) with
            | true =>
              have hRR := HR2.out
              rw [ht, if_pos rfl] at hRR
              have HRR := Lib.hid hRR
              clear hRR
              rcases textOk_yes ht with ⟨e1, e2, e3⟩ | ⟨e1, e2, e3⟩
              all_goals
                clear ht
                go_wp2
                go_roundg (s.length - (at' + 1))
                case measure => omega
                case rel =>
                  cases f with
                  | zero => omega
                  | succ f => exact ⟨at' + 1, v', ns', ⟨h2q.set (by omega) (by omega), hk2q.setCell (p := ⟨b, 1, none⟩) (.inl (.inl rfl)) _, HL.out.own, ⟨f, by omega, by omega, HRR.out⟩, rfl⟩⟩
            | false =>
              obtain rfl : r = .bad ⟨2, at'⟩ := by rw [← HR2.out, ht]; rfl
              obtain ⟨e1, en, e2⟩ := textOk_no ht
              rcases e2 with e2 | ⟨e2, e3⟩
              all_goals
                clear ht
                go_wp2_with (go_at_call 20; refine (fail_any 2 _ b s at' _ h2q.rd).mono ?_; rintro e w9 ⟨rfl, hq9⟩)
                all_goals first
                  | exact ⟨rfl, rfl, hk2q.trans (hq9.kept _)⟩
                  | (exfalso; rename_i hx; rcases hx with hx | hx; (rw [e1] at hx; cases hx); omega)
    · rw [pItems_end _ _ _ _ _ _ (by omega)] at hR
      subst hR
      have hd : decide (at' < s.length) = false := by simpa using hlt
      go_wp2_with fail
      go_quiet (fail)
      go_wp2_with fail
      go_end0
      exact ⟨v', rfl, HL.out.kept.drewN _, HL.out.rdr.quiet ⟨nq, rfl⟩, rfl, HL.out.own⟩

end Go.Proofs.Ytplbdlgmjehckaa
