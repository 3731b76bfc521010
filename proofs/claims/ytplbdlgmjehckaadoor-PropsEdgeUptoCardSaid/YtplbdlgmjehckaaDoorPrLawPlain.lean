/-
  inklaw4.alive, inklaw4.PropsPlain.
-/
import Derived.Test.YtplbdlgmjehckaaDoorPrLawTells
namespace Go.Proofs.YtplbdlgmjehckaaDoor
open Go.RowKit
set_option linter.unusedVariables false
set_option linter.unusedSimpArgs false

set_option maxRecDepth 100000 in
set_option maxHeartbeats 1600000 in
theorem alive4_any (w : World) (m : Int) (hm : w.cell? ⟨0, 0, none⟩ = some (.int .i64 m)) :
    Calls Tryd.prog 10 #[] w fun e w' => e = .returned (.bool true) ∧ Below w.heap.size w w' := by
  have hE : pExpand ⟨edgeName, [49, 32, 50], true⟩ = some (edges [49] [50] [49] [50] true) := by decide
  have HE := Lib.hid (expand_any ⟨edgeName, [49, 32, 50], true⟩ w m hm (by decide))
  clear hm
  rw [hE] at HE
  clear hE
  go_enter Tryd.func10, Tryd.ntmps10
  go_wp2_with fail
  refine HE.out.mono ?_
  rintro e w1 ⟨v, rfl, hb, hd, _⟩
  have HD := Lib.hid hd
  have HB := Lib.hid hb
  obtain ⟨a, cap, rfl, hc1, hc2⟩ := DeclsAt.form hd
  obtain ⟨b, off, rfl, g0, g1, g2⟩ := DeclsAt.at hd (k := 0) (x := ⟨edgeTop, [49], true⟩) rfl
  obtain ⟨b', off', hbb, h0, h1, h2⟩ := DeclsAt.at hd (k := 3) (x := ⟨edgeLeft, [50], true⟩) rfl
  cases hbb
  unfold maxLen at hc2
  have q0 : w1.cell? ⟨b, off + 9, none⟩ = some (.string ⟨#[101, 100, 103, 101, 45, 108, 101, 102, 116]⟩) := h0
  have q1 : w1.cell? ⟨b, off + 9 + 1, none⟩ = some (.string ⟨#[50]⟩) := h1
  have q2 : w1.cell? ⟨b, off + 2, none⟩ = some (.bool true) := by simpa using g2
  clear g0 g1 g2 h0 h1 h2 hd hb
  change 4 ≤ cap at hc1
  go_wp2_with (first
    | (go_at_call 15; refine (inherits_any colorName _).mono ?_; rintro e w4 ⟨rfl, rfl⟩)
    | (go_at_call 17; refine (initial_any [119, 105, 100, 116, 104] _).mono ?_; rintro e w6 ⟨rfl, rfl⟩))
  go_ret
  exact ⟨retb (by decide), HB.out⟩

theorem expand_vals {d : PDecl} {x : List PDecl} (h : pExpand d = some x) : ∀ y ∈ x, y.val.length ≤ d.val.length := by
  unfold pExpand at h
  split at h
  · have hp := splitB_part d.val
    split at h
    · rename_i a hs; rw [hs] at hp; cases h
      intro y hy; simp [edges] at hy
      rcases hy with rfl | rfl | rfl | rfl <;> simpa using hp a (by simp)
    · rename_i a b hs; rw [hs] at hp; cases h
      intro y hy; simp [edges] at hy
      rcases hy with rfl | rfl | rfl | rfl <;> first | exact hp a (by simp) | exact hp b (by simp)
    · rename_i a b c hs; rw [hs] at hp; cases h
      intro y hy; simp [edges] at hy
      rcases hy with rfl | rfl | rfl | rfl <;> first | exact hp a (by simp) | exact hp b (by simp) | exact hp c (by simp)
    · rename_i a b c e hs; rw [hs] at hp; cases h
      intro y hy; simp [edges] at hy
      rcases hy with rfl | rfl | rfl | rfl <;> first | exact hp a (by simp) | exact hp b (by simp) | exact hp c (by simp) | exact hp e (by simp)
    · cases h
  · cases h; intro y hy; simp at hy; subst hy; exact Nat.le_refl _
theorem all_vals : ∀ {ds x : List PDecl} {n : Nat}, pAll ds = some x → (∀ d ∈ ds, d.val.length ≤ n) → ∀ y ∈ x, y.val.length ≤ n
  | [], x, n, h, _, y, hy => by cases h; cases hy
  | d :: ds, x, n, h, hn, y, hy => by
    obtain ⟨a, b, h1, h2, rfl⟩ := all_cons h
    rcases List.mem_append.1 hy with hy | hy
    · exact Nat.le_trans (expand_vals h1 y hy) (hn d (by simp))
    · exact all_vals h2 (fun e he => hn e (by simp [he])) y hy
theorem all_each {ds x : List PDecl} {k : Nat} {d : PDecl} {xs : List PDecl} (h : pAll ds = some x) (hd : ds[k]? = some d) (hx : pAll (ds.take k) = some xs) : ∃ y, pExpand d = some y ∧ pAll (ds.take (k + 1)) = some (xs ++ y) := by
  have h1 := all_take hd hx
  cases he : pExpand d with
  | none =>
    rw [he] at h1
    have := all_none_take h1
    rw [h] at this; cases this
  | some y => rw [he] at h1; exact ⟨y, rfl, h1⟩

set_option maxRecDepth 100000 in
set_option maxHeartbeats 3200000 in
theorem propsPlain_any (w : World) (v : Value) (ds : List PDecl) (h : DeclsAt w v ds) (hN : ds.length ≤ 1048576) (hone : ∀ d ∈ ds, d.val.length ≤ 1048576) (m : Int) (hm : w.cell? ⟨0, 0, none⟩ = some (.int .i64 m)) :
    Calls Tryd.prog 5 #[v] w fun e w' => e = .returned (.bool true) ∧ Below w.heap.size w w' := by
  obtain ⟨av, cv, rfl, hcv1, hcv2⟩ := h.form
  unfold maxLen at hcv2
  have H := Lib.hid h
  have HONE := Lib.hid hone
  have HM := Lib.hid hm
  clear h hone hm
  go_enter Tryd.func5, Tryd.ntmps5
  go_wp2_with (go_at_call 10; refine (alive4_any _ m HM.out).mono ?_; rintro e w0 ⟨rfl, hb0⟩)
  have k0 := Kept.of_below (S := fun _ => False) hb0
  have hm0 := k0.cell id HM.out
  refine (all_any w0 _ ds (decls_firm.kept H.out k0) (by omega) HONE.out m hm0).mono ?_
  have K0 := Lib.hid k0
  clear k0 hb0
  intro e w1 hE
  cases hp : pAll ds with
  | none =>
    rw [hp] at hE
    obtain ⟨rfl, hb1⟩ := hE
    have K1 := Lib.hid (K0.out.trans (Kept.of_below hb1))
    clear hp hb1
    go_wp2_with fail
    go_ret
    exact ⟨rfl, K1.out.below⟩
  | some x =>
    rw [hp] at hE
    obtain ⟨v1, rfl, hb1, hd1, _⟩ := hE
    obtain ⟨a1, c1, rfl, hc1, hc1'⟩ := DeclsAt.form hd1
    unfold maxLen at hc1'
    have HP := Lib.hid hp
    have hxl := all_len hp
    have HVALS := Lib.hid (all_vals hp HONE.out)
    have k1 := K0.out.trans (Kept.of_below (S := fun _ => False) hb1)
    have hm1 := k1.cell id HM.out
    have HD1 := Lib.hid hd1
    have K1 := Lib.hid k1
    clear hp hb1 k1 hd1
    go_wp2_with fail
    refine (all_any w1 _ x HD1.out (by omega) HVALS.out m hm1).mono ?_
    intro e w2 hE
    rw [all_twice HP.out] at hE
    obtain ⟨v2, rfl, hb2, hd2, _⟩ := hE
    obtain ⟨a2, c2, rfl, hc2, hc2'⟩ := DeclsAt.form hd2
    unfold maxLen at hc2'
    have HD2 := Lib.hid hd2
    have HD12 := Lib.hid (decls_firm _ _ _ _ HD1.out hb2)
    have K2 := Lib.hid (K1.out.trans (Kept.of_below hb2))
    clear hb2 hd2 hm1
    go_wp2_with (go_at_call 14; refine (sameDecls_any _ _ _ _ HD12.out HD2.out).mono ?_; rintro e w3 ⟨rfl, hq3⟩)
    have K3 := Lib.hid (K2.out.trans (hq3.kept _))
    have HD13 := Lib.hid (decls_firm.quiet HD12.out hq3)
    obtain ⟨base, HBASE⟩ : ∃ y, Hid (w3.heap.size = y) := ⟨_, rfl⟩
    obtain ⟨i0, hi0, hz0, hz1, hz2⟩ := info_parts info_decl
    clear hq3
    go_loopw [7, 41] (fun l i wr => ∃ (k n : Nat) (xs : List PDecl), k ≤ ds.length ∧ i = .int .i64 k ∧ ALoop w3 wr base l ds k n xs) (fun _ i _ => ds.length - (intOf i).toNat)
    case atStart => exact ⟨0, 0, [], by omega, rfl, World.ownsRow_nil _ _ _ _, Kept.refl _ _, rfl, rfl, by omega⟩
    case round =>
      obtain ⟨i, n, xs, hi, rfl, hL⟩ := hrel
      obtain ⟨lo, lc, rfl⟩ := hL.form
      have HL := Lib.hid hL
      obtain ⟨hn1, hn2⟩ := hL.len
      clear hL hn1
      obtain ⟨wr0, hwr0⟩ : ∃ x, x = wr := ⟨_, rfl⟩
      subst hwr0
      by_cases hlt : i < ds.length
      · have hx := List.getElem?_eq_getElem hlt
        generalize hgx : ds[i] = d at hx
        clear hgx
        obtain ⟨y, hy, hT⟩ := all_each HP.out hx HL.out.all
        obtain ⟨b, off, rfl, g0, g1, g2⟩ := DeclsAt.at (decls_firm.kept H.out (K3.out.trans HL.out.kept)) hx
        have hdl := HONE.out d (List.mem_of_getElem? hx)
        have HT := Lib.hid hT
        have HY := Lib.hid hy
        have hyl := expand_len hy
        have HPL := Lib.hid (expand_plain hy)
        clear hx hT hy
        go_wp2_with fail
        obtain ⟨wa, HWA⟩ : ∃ x', Hid (wr0.alloc (.cells #[.string (str d.name), .string (str d.val), .bool d.strong] 30 (0,0)) = x') := ⟨_, rfl⟩
        have ka : Kept (fun _ => False) w3 wa := by rw [← HWA.out]; exact HL.out.kept.alloc _
        have how : wa.ownsRow base 30 3 (.slice lo n lc) n (xs.map declCells).flatten := by rw [← HWA.out]; exact HL.out.own.alloc _
        have hn : wa.heap[wr0.heap.size]? = some (.cells #[.string (str d.name), .string (str d.val), .bool d.strong] 30 (0,0)) := by rw [← HWA.out]; exact newIn wr0 _
        have hm2 : wa.cell? ⟨0, 0, none⟩ = some (.int .i64 m) := (K3.out.trans ka).cell id HM.out
        have hsz : base ≤ wa.heap.size := by have := ka.size; have := HBASE.out; omega
        have KA := Lib.hid ka
        have HOW := Lib.hid how
        have HN := Lib.hid hn
        clear ka how g0 g1 g2 hn
        rw [HWA.out]
        refine (expand_any d wa m hm2 hdl).mono ?_
        intro e w4 hE
        rw [HY.out] at hE
        obtain ⟨v4, rfl, hb4, hd4, _⟩ := hE
        obtain ⟨a4, c4, rfl, hc4, hc4'⟩ := DeclsAt.form hd4
        unfold maxLen at hc4'
        have k4 : Kept (fun _ => False) wa w4 := Kept.of_below hb4
        have HD4 := Lib.hid hd4
        have HN4 := Lib.hid (k4.heap id HN.out)
        have HOW4 := Lib.hid (owns_kept HOW.out k4 (fun _ _ => id))
        have K4 := Lib.hid (KA.out.trans k4)
        clear hb4 hd4 k4 hm2
        go_upto_block 2 with fail
        go_cut [13] (fun _ wx => Kept (fun _ => False) w4 wx)
        case first =>
          go_wp2_with fail
          go_loopw [54] (fun j wx => ∃ k : Nat, k ≤ y.length ∧ j = .int .i64 k ∧ Hid (Kept (fun _ => False) w4 wx)) (fun j _ => y.length - (intOf j).toNat)
          case atStart => exact ⟨0, by omega, rfl, Lib.hid (Kept.refl _ _)⟩
          case round =>
            obtain ⟨j, hj, rfl, HJ⟩ := hrel
            by_cases hjl : j < y.length
            · have hz := List.getElem?_eq_getElem hjl
              generalize hgz : y[j] = z at hz
              clear hgz
              obtain ⟨b2, off2, rfl, q0, q1, q2⟩ := DeclsAt.at (decls_firm.kept HD4.out HJ.out) hz
              obtain ⟨hz1', hz2'⟩ := HPL.out z (List.mem_of_getElem? hz)
              have d2 : wr.cell? ⟨wr0.heap.size, 2, none⟩ = some (.bool d.strong) := cellIn (HJ.out.heap id HN4.out) 2 rfl
              have e1 : (z.name == [101, 100, 103, 101]) = false := beq_false_of_ne hz1'
              rw [hz2'] at q2
              clear hz hz1' hz2'
              go_upto_region 19 with fail
              obtain ⟨wz, HWZ⟩ : ∃ x', Hid (wr.alloc (.cells #[.string (str z.name), .string (str z.val), .bool d.strong] 30 (0,0)) = x') := ⟨_, rfl⟩
              have hz0 : wz.heap[wr.heap.size]? = some (.cells #[.string (str z.name), .string (str z.val), .bool d.strong] 30 (0,0)) := by rw [← HWZ.out]; exact newIn wr _
              have r0 : wz.cell? ⟨wr.heap.size, 0, none⟩ = some (.string (str z.name)) := cellIn hz0 0 rfl
              have r2 : wz.cell? ⟨wr.heap.size, 2, none⟩ = some (.bool d.strong) := cellIn hz0 2 rfl
              have d3 : wz.cell? ⟨wr0.heap.size, 2, none⟩ = some (.bool d.strong) := by rw [← HWZ.out]; exact cell_alloc d2 _
              have kz : Kept (fun _ => False) w4 wz := by rw [← HWZ.out]; exact HJ.out.alloc _
              have KZ := Lib.hid kz
              clear hz0 kz q0 q1 q2 d2
              rw [HWZ.out]
              go_wp2_with fail
              go_roundw
              case measure => simp [intOf]; omega
              case rel => exact ⟨j + 1, by omega, by go_num, KZ⟩
            · go_wp2_with fail
              go_meet
              case rel => exact HJ.out
        case rest =>
          have HC := Lib.hid hcut
          clear hcut
          have hd5 := decls_firm.kept HD4.out HC.out
          have how5 := owns_kept HOW4.out HC.out (fun _ _ => id)
          have hsz5 : base ≤ wc.heap.size := by have := HC.out.size; have := K4.out.size; have := HBASE.out; omega
          obtain ⟨yb, yo, rfl⟩ := RowsAt.addr hd5 (by intro h0; have := congrArg List.length h0; simp at this; simp [this] at hyl)
          have hnews := Lib.hid (RowsAt.news hd5 decl_rows)
          go_wp2_with (at_builtin; refine wpList_append_lies _ rfl _ _ _ rfl base 30 i0 _ 3 40 Tryd.underlying25 hi0 hz0 hz1 hz2 rfl (by omega) _ n _ (by rfl) how5 ⟨yb, yo, none⟩ y.length c4 ((y.map declCells).flatten) (by rfl) (by rw [flatten_len 3 _ decl_rows, List.length_map]) hnews.out (decl_ones y) (by omega) (by unfold maxLen; omega) (by omega) (by omega) wc.heap.size rfl ?_; intro gg cap w6 hown6 hgrow6 hat6 hlt6)
          go_roundw
          case measure => simp [intOf]; omega
          case rel =>
            refine ⟨i + 1, n + y.length, xs ++ y, by omega, by go_num, ?_, (K4.out.trans HC.out).grown hgrow6 (fun k hk => .inr (by have := (how5.lt k hk).1; have := HBASE.out; omega)), HT.out, ?_⟩
            · rw [List.map_append, List.flatten_append]; exact hown6
            · have := HL.out.len
              exact ⟨by rw [List.length_append]; omega, by omega⟩
      · obtain rfl : i = ds.length := by omega
        have hall := HL.out.all
        rw [List.take_length, HP.out] at hall
        cases hall
        have hdc : DeclsAt wr0 (.slice lo n lc) x := rowsAt_of_owns decl_rows (by rw [List.length_map]; exact HL.out.len.1) HL.out.own
        have hd1w := decls_firm.kept HD13.out HL.out.kept
        have HDC := Lib.hid hdc
        have HDW := Lib.hid hd1w
        clear hdc hd1w
        go_wp2_with (go_at_call 14; refine (sameDecls_any _ _ _ _ HDW.out HDC.out).mono ?_; rintro e w7 ⟨rfl, hq7⟩)
        go_ret
        exact ⟨rfl, ((K3.out.trans HL.out.kept).trans (hq7.kept _)).below⟩
end Go.Proofs.YtplbdlgmjehckaaDoor
