/-
  inklaw1.PageJoined.
-/
import Derived.Test.YtplbdlgmjehckaaPgWrapped
import Derived.Test.YtplbdlgmjehckaaPgSame
namespace Go.Proofs.Ytplbdlgmjehckaa
open Go.RowKit
set_option linter.unusedVariables false
set_option linter.unusedSimpArgs false

theorem join_n (xs : List PNode) (s : B) (x : PNode) : ((joinSft xs s).n x).name = x.name ∧ ((joinSft xs s).n x).parent = (if 0 ≤ x.parent then x.parent + xs.length else -1) ∧ ((joinSft xs s).n x).nameEnd = x.nameEnd + s.length ∧ ((joinSft xs s).n x).attrs.length = x.attrs.length := by
  unfold Sft.n
  split
  · exact ⟨rfl, rfl, rfl, by simp [Sft.n0]⟩
  · exact ⟨rfl, rfl, rfl, by simp [Sft.n0]⟩

theorem elem_few (items : Int → Nat → List PNode → B → Nat → Ans (List PNode × B × Nat))
    (hit : ∀ (parent : Int) (deep : Nat) (ns ns' : List PNode) (l l' : B) (a a' : Nat), items parent deep ns l a = .ok (ns', l', a') → ns.length ≤ 120 → ns'.length ≤ 120)
    {parent : Int} {deep : Nat} {ns ns' : List PNode} {l l' : B} {a a' : Nat} (h : pElem items parent deep ns l a = .ok (ns', l', a')) (hn : ns.length ≤ 120) : ns'.length ≤ 120 := by
  unfold pElem at h
  cases h1 : pOpen parent deep ns.length l a with
  | bad x => rw [h1] at h; cases h
  | ok y =>
    obtain ⟨n, l1, a1⟩ := y
    have hc : ns.length ≠ 120 := by
      unfold pOpen at h1
      split at h1
      · cases h1
      · split at h1
        · cases h1
        · assumption
    rw [h1] at h
    simp only [Ans.ok_then] at h
    cases h2 : pInside items deep ns n l1 a1 with
    | bad x => rw [h2] at h; cases h
    | ok y =>
      obtain ⟨ns2, l2, a2⟩ := y
      rw [h2] at h
      simp only [Ans.ok_then] at h
      have h4 : ns2.length ≤ 120 := by
        unfold pInside at h2
        split at h2
        · split at h2
          · cases h2
          · cases h2; simp; omega
        · exact hit _ _ _ _ _ _ _ _ h2 (by simp; omega)
      cases h3 : pMust ([60, 47] ++ n.name ++ [62]) l2 a2 with
      | bad x => rw [h3] at h; cases h
      | ok y =>
        rw [h3] at h
        simp only [Ans.ok_then, Ans.ok.injEq, Prod.mk.injEq] at h
        rw [← h.1]; exact h4
theorem items_few : ∀ (f : Nat) (parent : Int) (deep : Nat) (ns ns' : List PNode) (l l' : B) (a a' : Nat), pItems f parent deep ns l a = .ok (ns', l', a') → ns.length ≤ 120 → ns'.length ≤ 120
  | 0, _, _, _, _, _, _, _, _, h, _ => by cases h
  | f + 1, parent, deep, ns, ns', l, l', a, a', h, hn => by
    cases l with
    | nil => rw [pItems] at h; cases h; exact hn
    | cons c r =>
      rw [pItems] at h
      split at h
      · cases h; exact hn
      · split at h
        · split at h
          · cases h
          · exact items_few f _ _ _ _ _ _ _ _ h hn
        · split at h
          · cases he : pElem (pItems f) parent deep ns (c :: r) a with
            | bad x => rw [he] at h; cases h
            | ok y =>
              obtain ⟨ns2, l2, a2⟩ := y
              rw [he] at h
              exact items_few f _ _ _ _ _ _ _ _ h (elem_few _ (fun p d n n' b b' x x' q1 q2 => items_few f p d n n' b b' x x' q1 q2) he hn)
          · split at h
            · exact items_few f _ _ _ _ _ _ _ _ h hn
            · cases h
theorem parse_few {s : B} {ns : List PNode} (h : pParse s = .ok ns) : ns.length ≤ 120 := items_few _ _ _ _ _ _ _ _ _ (parse_items h).2.1 (by simp)

/-- the first elements of a slice of elements -/
theorem NodesAt.take {w : World} {b off n cap : Nat} {xs bs : List PNode} (h : NodesAt w (.slice (some ⟨b, off, none⟩) n cap) (xs ++ bs)) : NodesAt w (.slice (some ⟨b, off, none⟩) xs.length cap) xs := by
  obtain ⟨avs, h1, ⟨a', cap', hv, h2, h3, h4⟩, h5⟩ := h
  simp only [Value.slice.injEq] at hv
  obtain ⟨rfl, _, rfl⟩ := hv
  simp only [List.length_append] at h1
  have hz : (List.zipWith nodeCells xs (avs.take xs.length)) = (List.zipWith nodeCells (xs ++ bs) avs).take xs.length := by
    rw [List.take_zipWith, List.take_append_of_le_length (Nat.le_refl _), List.take_length]
  have hlen : (List.zipWith nodeCells xs (avs.take xs.length)).length = xs.length := by simp; omega
  refine ⟨avs.take xs.length, by simp; omega, ⟨_, cap, by rw [hlen], ?_, h3, fun hne => ?_⟩, fun i m av hm ha => ?_⟩
  · rw [hlen]; simp at h2; omega
  · obtain ⟨b', off', hb', h6⟩ := h4 (by
      intro he
      rw [hz, he] at hne
      simp at hne)
    cases hb'
    refine ⟨_, _, rfl, fun i r hr => h6 i r ?_⟩
    rw [hz, List.getElem?_take] at hr
    split at hr
    · exact hr
    · cases hr
  · have hi := (List.getElem?_eq_some_iff.1 hm).1
    refine h5 i m av (by rw [List.getElem?_append_left hi]; exact hm) ?_
    rw [List.getElem?_take, if_pos hi] at ha
    exact ha

set_option maxRecDepth 100000 in
set_option maxHeartbeats 3200000 in
theorem joined_any (w : World) (s t : B) (m : Int) (hm : w.cell? ⟨0, 0, none⟩ = some (.int .i64 m)) (hs : s.length ≤ 9223372036854775807) (ht : t.length ≤ 9223372036854775807) :
    Calls Try.prog 5 #[.string (str s), .string (str t)] w fun e w' => e = .returned (.bool true) ∧ Below w.heap.size w w' := by
  have h0 : 0 < w.heap.size := World.block_lt_of_cell? w _ hm
  cases hp : pParse s with
  | bad f =>
    have hff := parse_fact s
    rw [hp] at hff
    have hfe : ((f.err : Int) != 0) = true := by have := hff.1; simp; omega
    go_enter Try.func5, Try.ntmps5
    go_wp2_with (go_at_call 17; refine (alive_any _ m hm).mono ?_; rintro e w1 ⟨rfl, hb1⟩)
    have hm1 : w1.cell? ⟨0, 0, none⟩ = some (.int .i64 m) := (hb1.cell h0).trans hm
    refine (parse_bad s f hp _ m hm1 hs).mono ?_
    rintro e w2 ⟨rfl, hb2⟩
    have hbw := (hb1.trans (hb2.mono hb1.size)).alloc (Nat.le_trans hb1.size hb2.size) (.cells #[.int .i64 f.err, .int .i64 f.pos] 25 (0, 0))
    have hm2 : (w2.alloc (.cells #[.int .i64 f.err, .int .i64 f.pos] 25 (0, 0))).cell? ⟨0, 0, none⟩ = some (.int .i64 m) := (hbw.cell h0).trans hm
    have hfc := newIn w2 (.cells #[.int .i64 f.err, .int .i64 f.pos] 25 (0, 0))
    go_wp2_with fail
    refine (parse_some t _ m hm2 ht).mono ?_
    rintro e w3 ⟨a, n, cap, x, y, rfl, hb3⟩
    have hf3 := (Kept.of_below (S := fun _ => False) hb3).heap id hfc
    have fc1 : ∀ o, (w3.alloc o).cell? ⟨w2.heap.size, 0, none⟩ = some (.int .i64 f.err) := fun o => cell_alloc (cellIn hf3 0 rfl) o
    have hb := (hbw.trans (hb3.mono hbw.size)).alloc (Nat.le_trans hbw.size hb3.size) (.cells #[.int .i64 x, .int .i64 y] 25 (0, 0))
    clear hb1 hb2 hbw hfc hf3 hb3 hm2
    go_wp2_with fail
    go_ret
    exact ⟨rfl, hb⟩
  | ok xs =>
    have hs6 := (parse_items hp).1
    have hpa := (parse_items hp).2.2
    have hxs := parse_few hp
    cases hq : pParse t with
    | bad f =>
      have hff := parse_fact t
      rw [hq] at hff
      have hfe : ((f.err : Int) != 0) = true := by have := hff.1; simp; omega
      go_enter Try.func5, Try.ntmps5
      go_wp2_with (go_at_call 17; refine (alive_any _ m hm).mono ?_; rintro e w1 ⟨rfl, hb1⟩)
      have hm1 : w1.cell? ⟨0, 0, none⟩ = some (.int .i64 m) := (hb1.cell h0).trans hm
      refine (parse_ok s xs hp _ m hm1 hs).mono ?_
      rintro e w2 ⟨a, cap, rfl, hb2, hn2⟩
      have hbw := (hb1.trans (hb2.mono hb1.size)).alloc (Nat.le_trans hb1.size hb2.size) (.cells #[.int .i64 0, .int .i64 0] 25 (0, 0))
      have hm2 : (w2.alloc (.cells #[.int .i64 0, .int .i64 0] 25 (0, 0))).cell? ⟨0, 0, none⟩ = some (.int .i64 m) := (hbw.cell h0).trans hm
      have hfc := newIn w2 (.cells #[.int .i64 0, .int .i64 0] 25 (0, 0))
      clear hpa
      go_wp2_with fail
      refine (parse_bad t f hq _ m hm2 ht).mono ?_
      rintro e w3 ⟨rfl, hb3⟩
      have hf3 := (Kept.of_below (S := fun _ => False) hb3).heap id hfc
      have fc1 : ∀ o, (w3.alloc o).cell? ⟨w2.heap.size, 0, none⟩ = some (.int .i64 0) := fun o => cell_alloc (cellIn hf3 0 rfl) o
      have hb := (hbw.trans (hb3.mono hbw.size)).alloc (Nat.le_trans hbw.size hb3.size) (.cells #[.int .i64 f.err, .int .i64 f.pos] 25 (0, 0))
      clear hb1 hb2 hbw hfc hf3 hb3 hm2 hn2
      go_wp2_with fail
      go_ret
      exact ⟨rfl, hb⟩
    | ok bs =>
      have ht6 := (parse_items hq).1
      have hpb := (parse_items hq).2.2
      have hbs := parse_few hq
      have HPB := Lib.hid hpb
      have HPA := Lib.hid hpa
      clear hpa hpb
      go_enter Try.func5, Try.ntmps5
      go_wp2_with (go_at_call 17; refine (alive_any _ m hm).mono ?_; rintro e w1 ⟨rfl, hb1⟩)
      have hm1 : w1.cell? ⟨0, 0, none⟩ = some (.int .i64 m) := (hb1.cell h0).trans hm
      refine (parse_ok s xs hp _ m hm1 hs).mono ?_
      rintro e w2 ⟨a, cap, rfl, hb2, hn2⟩
      have hbw := (hb1.trans (hb2.mono hb1.size)).alloc (Nat.le_trans hb1.size hb2.size) (.cells #[.int .i64 0, .int .i64 0] 25 (0, 0))
      have hna := hn2.kept ((Below.refl _ w2).alloc (Nat.le_refl _) (.cells #[.int .i64 0, .int .i64 0] 25 (0, 0)))
      have hm2 : (w2.alloc (.cells #[.int .i64 0, .int .i64 0] 25 (0, 0))).cell? ⟨0, 0, none⟩ = some (.int .i64 m) := (hbw.cell h0).trans hm
      have hfc := newIn w2 (.cells #[.int .i64 0, .int .i64 0] 25 (0, 0))
      obtain ⟨hle, hcap⟩ := hn2.cap
      clear hb1 hb2 hn2 hm1
      go_wp2_with fail
      refine (parse_ok t bs hq _ m hm2 ht).mono ?_
      rintro e w3 ⟨a3, cap3, rfl, hb3, hn3⟩
      have hf3 := (Kept.of_below (S := fun _ => False) hb3).heap id hfc
      have fc1 : ∀ o, (w3.alloc o).cell? ⟨w2.heap.size, 0, none⟩ = some (.int .i64 0) := fun o => cell_alloc (cellIn hf3 0 rfl) o
      have hb := (hbw.trans (hb3.mono hbw.size)).alloc (Nat.le_trans hbw.size hb3.size) (.cells #[.int .i64 0, .int .i64 0] 25 (0, 0))
      have hna3 := (hna.kept hb3).kept ((Below.refl _ w3).alloc (Nat.le_refl _) (.cells #[.int .i64 0, .int .i64 0] 25 (0, 0)))
      have hnb3 := hn3.kept ((Below.refl _ w3).alloc (Nat.le_refl _) (.cells #[.int .i64 0, .int .i64 0] 25 (0, 0)))
      have hm3 : (w3.alloc (.cells #[.int .i64 0, .int .i64 0] 25 (0, 0))).cell? ⟨0, 0, none⟩ = some (.int .i64 m) := (hb.cell h0).trans hm
      obtain ⟨hle3, hcap3⟩ := hn3.cap
      have HB := Lib.hid hb
      have HNA := Lib.hid hna3
      have HNB := Lib.hid hnb3
      clear hbw hna hfc hf3 hb3 hb hna3 hnb3 hn3 hm2
      have hsz : ((str s).size : Int) = s.length := by rw [str_size]
      by_cases hl : s.length + t.length ≤ 6000
      · by_cases hn : xs.length + bs.length ≤ 120
        · have hj := parse_joined hp hq hl hn
          have d1 : decide (6000 < (s.length : Int) + t.length) = false := by simp; omega
          have d2 : decide (120 < (xs.length : Int) + bs.length) = false := by simp; omega
          have hst : (s ++ t).length ≤ 9223372036854775807 := by simp; omega
          go_wp2_with fail
          refine (parse_ok (s ++ t) _ hj _ m hm3 hst).mono ?_
          rintro e w4 ⟨a4, cap4, rfl, hb4, hn4⟩
          have hb5 := (HB.out.trans (hb4.mono HB.out.size)).alloc (Nat.le_trans HB.out.size hb4.size) (.cells #[.int .i64 0, .int .i64 0] 25 (0, 0))
          have ha5 := (HNA.out.kept hb4).kept ((Below.refl _ w4).alloc (Nat.le_refl _) (.cells #[.int .i64 0, .int .i64 0] 25 (0, 0)))
          have hc5 := (HNB.out.kept hb4).kept ((Below.refl _ w4).alloc (Nat.le_refl _) (.cells #[.int .i64 0, .int .i64 0] 25 (0, 0)))
          have hd5 := hn4.kept ((Below.refl _ w4).alloc (Nat.le_refl _) (.cells #[.int .i64 0, .int .i64 0] 25 (0, 0)))
          obtain ⟨hle4, hcap4⟩ := hn4.cap
          have hlen4 : (xs ++ bs.map (joinSft xs s).n).length = xs.length + bs.length := by simp
          rw [hlen4] at hle4 hd5 ⊢
          have HB5 := Lib.hid hb5
          have HA5 := Lib.hid ha5
          have HC5 := Lib.hid hc5
          have HD5 := Lib.hid hd5
          clear hb4 hn4 hb5 ha5 hc5 hd5 hm3 fc1 hj hp hq hst d1 d2 hm hlen4
          go_wp2_with fail
          generalize (w4.alloc (.cells #[.int .i64 0, .int .i64 0] 25 (0, 0))) = wb at *
          clear HB HNA HNB
          go_loopw [73] (fun i wr => ∃ k : Nat, k ≤ bs.length ∧ i = .int .i64 k ∧ Hid (Below wb.heap.size wb wr)) (fun i _ => bs.length - (intOf i).toNat)
          case atStart => exact ⟨0, by omega, rfl, Below.refl _ _⟩
          case round =>
            obtain ⟨i, hi, rfl, HR⟩ := hrel
            by_cases hlt : i < bs.length
            · have hx := List.getElem?_eq_getElem hlt
              generalize hgx : bs[i] = x at hx
              clear hgx
              obtain ⟨b, off, av, rfl, g0, g1, g2, g3, g4, g5, hav⟩ := (HC5.out.kept HR.out).at hx
              have p1 := (HPB.out i x hx).1
              have p2 := (HPB.out i x hx).2.1
              obtain ⟨p3, p4⟩ : 0 ≤ x.nameEnd ∧ x.nameEnd ≤ 6000 := by
                obtain ⟨e, he1, he2, _⟩ := (HPB.out i x hx).2.2.1
                rw [he1]; omega
              obtain ⟨e1, e2, e3, e4⟩ := join_n xs s x
              have hy : (xs ++ bs.map (joinSft xs s).n)[xs.length + i]? = some ((joinSft xs s).n x) := by
                rw [List.getElem?_append_right (by omega), Nat.add_sub_cancel_left]; simp [hx]
              obtain ⟨b4, off4, av4, rfl, r0, r1, r2, r3, r4, r5, hav4⟩ := (HD5.out.kept HR.out).at hy
              rw [e1] at r0
              rw [e2] at r1
              rw [e3] at r3
              obtain ⟨a5, cap5, rfl, hle5, hcap5⟩ := hav.form
              obtain ⟨a6, cap6, rfl, hle6, hcap6⟩ := hav4.form
              rw [e4] at r2
              unfold maxLen at hcap5 hcap6
              generalize hF : ((joinSft xs s).n x).inF = F4 at r4
              generalize hT : ((joinSft xs s).n x).inT = T4 at r5
              obtain ⟨name, hname⟩ : ∃ y, x.name = y := ⟨_, rfl⟩
              obtain ⟨parent, hparent⟩ : ∃ y, x.parent = y := ⟨_, rfl⟩
              obtain ⟨attrs, hattrs⟩ : ∃ y, x.attrs = y := ⟨_, rfl⟩
              obtain ⟨nameEnd, hnameEnd⟩ : ∃ y, x.nameEnd = y := ⟨_, rfl⟩
              obtain ⟨inF, hinF⟩ : ∃ y, x.inF = y := ⟨_, rfl⟩
              obtain ⟨inT, hinT⟩ : ∃ y, x.inT = y := ⟨_, rfl⟩
              rw [hname] at g0 r0
              rw [hparent] at g1 r1 p1 p2
              rw [hattrs] at g2 r2 hle5
              rw [hnameEnd] at g3 r3 p3 p4
              rw [hinF] at g4
              rw [hinT] at g5
              obtain ⟨PP, hPP⟩ : ∃ y, (if 0 ≤ parent then parent + (xs.length : Int) else -1) = y := ⟨_, rfl⟩
              rw [hPP] at r1
              have r0' : ∀ o, (wr.alloc o).cell? ⟨b4, off4 + (xs.length + i) * 6, none⟩ = some (.string (str name)) := fun o => cell_alloc r0 o
              have r1' : ∀ o, (wr.alloc o).cell? ⟨b4, off4 + (xs.length + i) * 6 + 1, none⟩ = some (.int .i64 PP) := fun o => cell_alloc r1 o
              have r2' : ∀ o, (wr.alloc o).cell? ⟨b4, off4 + (xs.length + i) * 6 + 2, none⟩ = some (.slice a6 attrs.length cap6) := fun o => cell_alloc r2 o
              have r3' : ∀ o, (wr.alloc o).cell? ⟨b4, off4 + (xs.length + i) * 6 + 3, none⟩ = some (.int .i64 (nameEnd + s.length)) := fun o => cell_alloc r3 o
              have r4' : ∀ o, (wr.alloc o).cell? ⟨b4, off4 + (xs.length + i) * 6 + 4, none⟩ = some (.int .i64 F4) := fun o => cell_alloc r4 o
              have r5' : ∀ o, (wr.alloc o).cell? ⟨b4, off4 + (xs.length + i) * 6 + 5, none⟩ = some (.int .i64 T4) := fun o => cell_alloc r5 o
              have hb2 := (HR.out.alloc HR.out.size (.cells #[.string (str name), .int .i64 parent, .slice a5 attrs.length cap5, .int .i64 nameEnd, .int .i64 inF, .int .i64 inT] 35 (0, 0)))
              have hb3 := (hb2.alloc hb2.size (.cells #[.string (str name), .int .i64 PP, .slice a6 attrs.length cap6, .int .i64 (nameEnd + s.length), .int .i64 F4, .int .i64 T4] 35 (0, 0)))
              have HB3 := Lib.hid hb3
              clear hx hy hav hav4 r0 r1 r2 r3 r4 r5 hb2 hb3 hF hT e1 e2 e3 e4 hname hparent hattrs hnameEnd hinF hinT hle6
              by_cases hpar : 0 ≤ parent
              · obtain rfl : PP = parent + (xs.length : Int) := by rw [← hPP, if_pos hpar]
                clear hPP
                go_wp2_with fail
                go_roundw
                case rel => exact ⟨i + 1, by omega, by go_num, HB3.out⟩
                case measure => simp [intOf]; omega
              · obtain rfl : PP = -1 := by rw [← hPP, if_neg hpar]
                obtain rfl : parent = -1 := by omega
                clear hPP hpar
                go_wp2_with fail
                go_roundw
                case rel => exact ⟨i + 1, by omega, by go_num, HB3.out⟩
                case measure => simp [intOf]; omega
            · have ha6 := HA5.out.kept HR.out
              have hd6 := HD5.out.kept HR.out
              have HA6 := Lib.hid ha6
              have HBE := Lib.hid (HB5.out.trans (HR.out.mono HB5.out.size))
              by_cases hnil : xs = []
              · have nilAt : ∀ (W : World) (a : Option Addr) (c : Nat), c ≤ 9223372036854775807 → NodesAt W (.slice a 0 c) [] := fun W a c hc => ⟨[], rfl, ⟨a, c, rfl, Nat.zero_le _, by unfold maxLen; omega, fun h => absurd rfl h⟩, fun i n av hn => by simp at hn⟩
                subst hnil
                have hcap0 := hcap
                have NIL := Lib.hid nilAt
                clear ha6 hd6 nilAt
                simp only [List.length_nil, Nat.zero_add] at *
                rcases a4 with _ | ⟨b4, off4, pth⟩
                · go_wp2_with (go_at_call 10; refine (same_any _ _ _ [] (NIL.out _ _ _ hcap4) (NIL.out _ _ _ hcap0)).mono ?_; rintro e w9 ⟨rfl, n9, rfl⟩)
                  go_ret
                  exact ⟨rfl, below_drewN HBE.out _⟩
                · go_wp2_with (go_at_call 10; refine (same_any _ _ _ [] (NIL.out _ _ _ hcap4) (NIL.out _ _ _ hcap0)).mono ?_; rintro e w9 ⟨rfl, n9, rfl⟩)
                  go_ret
                  exact ⟨rfl, below_drewN HBE.out _⟩
              · obtain ⟨x0, hx0⟩ : ∃ x0, (xs ++ bs.map (joinSft xs s).n)[0]? = some x0 := by
                  cases xs with
                  | nil => exact absurd rfl hnil
                  | cons z zs => exact ⟨z, rfl⟩
                obtain ⟨b4, off4, av4, rfl, _⟩ := hd6.at hx0
                have HD6 := Lib.hid hd6.take
                clear ha6 hd6 hnil hx0
                go_wp2_with (go_at_call 10; refine (same_any _ _ _ xs HD6.out HA6.out).mono ?_; rintro e w9 ⟨rfl, n9, rfl⟩)
                go_ret
                exact ⟨rfl, below_drewN HBE.out _⟩
        · have d1 : decide (6000 < (s.length : Int) + t.length) = false := by simp; omega
          have d2 : decide (120 < (xs.length : Int) + bs.length) = true := by simp; omega
          go_wp2_with fail
          go_ret
          exact ⟨rfl, HB.out⟩
      · have d1 : decide (6000 < (s.length : Int) + t.length) = true := by simp; omega
        go_wp2_with fail
        go_ret
        exact ⟨rfl, HB.out⟩

end Go.Proofs.Ytplbdlgmjehckaa
