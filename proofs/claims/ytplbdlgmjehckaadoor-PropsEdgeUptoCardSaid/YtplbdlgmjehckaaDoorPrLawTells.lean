/-
  inklaw4.PropsTells.
-/
import Derived.Test.YtplbdlgmjehckaaDoorR3All
import Derived.Test.YtplbdlgmjehckaaDoorSameD
namespace Go.Proofs.YtplbdlgmjehckaaDoor
open Go.RowKit
set_option linter.unusedVariables false
set_option linter.unusedSimpArgs false

def errOf {α : Type} : Option α → Int
  | none => 5
  | some _ => 0
theorem AllEnds.uni {w w' : World} {r : Option (List PDecl)} {e : Ending} (h : AllEnds w r e w') : ∃ a cap, e = .returned (.tuple #[.slice a (r.getD []).length cap, .int .i64 (errOf r)]) ∧ Below w.heap.size w w' ∧ DeclsAt w' (.slice a (r.getD []).length cap) (r.getD []) ∧ (r.getD []).length ≤ cap ∧ cap ≤ maxLen := by
  cases r with
  | none => exact ⟨none, 0, h.1, h.2, RowsAt.nil _ _, Nat.le_refl _, by unfold maxLen; omega⟩
  | some x =>
    obtain ⟨v, rfl, hb, hd⟩ := h
    obtain ⟨a, cap, rfl, h1, h2⟩ := DeclsAt.form hd.1
    exact ⟨a, cap, rfl, hb, hd.1, h1, h2⟩
theorem ExpandEnds.uni {w w' : World} {r : Option (List PDecl)} {e : Ending} (h : ExpandEnds w r e w') : ∃ a cap, e = .returned (.tuple #[.slice a (r.getD []).length cap, .int .i64 (errOf r)]) ∧ Below w.heap.size w w' ∧ DeclsAt w' (.slice a (r.getD []).length cap) (r.getD []) ∧ (r.getD []).length ≤ cap ∧ cap ≤ maxLen := by
  cases r with
  | none => exact ⟨none, 0, h.1, h.2, RowsAt.nil _ _, Nat.le_refl _, by unfold maxLen; omega⟩
  | some x =>
    obtain ⟨v, rfl, hb, hd⟩ := h
    obtain ⟨a, cap, rfl, h1, h2⟩ := DeclsAt.form hd.1
    exact ⟨a, cap, rfl, hb, hd.1, h1, h2⟩
theorem pAll_one (d : PDecl) : pAll [d] = pExpand d := by
  simp only [pAll]
  cases pExpand d <;> simp
theorem all_len {ds x : List PDecl} (h : pAll ds = some x) : x.length ≤ 4 * ds.length := by
  induction ds generalizing x with
  | nil => cases h; simp
  | cons d ds ih =>
    obtain ⟨a, b, h1, h2, rfl⟩ := all_cons h
    have := (expand_len h1).2
    have := ih h2
    simp; omega

set_option maxRecDepth 100000 in
set_option maxHeartbeats 3200000 in
theorem propsTells_any (w : World) (v : Value) (ds : List PDecl) (name : B) (h : DeclsAt w v ds) (hN : ds.length ≤ 1048576) (hone : ∀ d ∈ ds, d.val.length ≤ 1048576) (m : Int) (hm : w.cell? ⟨0, 0, none⟩ = some (.int .i64 m)) :
    Calls Tryd.prog 4 #[v, .string (str name)] w fun e w' => e = .returned (.bool true) ∧ Below w.heap.size w w' := by
  obtain ⟨av, cv, rfl, hcv1, hcv2⟩ := h.form
  unfold maxLen at hcv2
  have H := Lib.hid h
  have HONE := Lib.hid hone
  have HM := Lib.hid hm
  clear h hone hm
  go_enter Tryd.func4, Tryd.ntmps4
  go_wp2_with fail
  refine (all_any w _ ds H.out (by omega) HONE.out m HM.out).mono ?_
  intro e w1 hE
  obtain ⟨a1, c1, rfl, hb1, hd1, hc1, hc1'⟩ := hE.uni
  obtain ⟨R, HR⟩ : ∃ R, Hid (pAll ds = R) := ⟨_, rfl⟩
  rw [HR.out] at hd1 hc1 ⊢
  have HD1 := Lib.hid hd1
  have HB1 := Lib.hid hb1
  unfold maxLen at hc1'
  clear hE hb1 hd1
  go_wp2_with fail
  refine (rall_any w1 _ ds (decls_firm _ _ _ _ H.out HB1.out) (by omega) HONE.out).mono ?_
  intro e w2 hE
  obtain ⟨a2, c2, rfl, hb2, hd2, hc2, hc2'⟩ := hE.uni
  rw [HR.out] at hd2 hc2 ⊢
  have HD12 := Lib.hid (decls_firm _ _ _ _ HD1.out hb2)
  have HD2 := Lib.hid hd2
  have HB2 := Lib.hid (HB1.out.trans (hb2.mono HB1.out.size))
  unfold maxLen at hc2'
  obtain ⟨n, HNN⟩ : ∃ n, Hid ((R.getD []).length = n) := ⟨_, rfl⟩
  rw [HNN.out] at hc1 hc2 ⊢
  obtain ⟨er, HER⟩ : ∃ n, Hid (errOf R = n) := ⟨_, rfl⟩
  rw [HER.out]
  rw [HNN.out] at HD12 HD2
  clear hE hb2 hd2
  go_wp2_with (first
    | (go_at_call 14; refine (sameDecls_any _ _ _ _ HD12.out HD2.out).mono ?_; rintro e w3 ⟨rfl, hq3⟩)
    | (go_at_call 15; refine (inherits_any name _).mono ?_; rintro e w4 ⟨rfl, rfl⟩)
    | (go_at_call 16; refine (rinherits_any name _).mono ?_; rintro e w5 ⟨rfl, rfl⟩)
    | (go_at_call 17; refine (initial_any name _).mono ?_; rintro e w6 ⟨rfl, rfl⟩)
    | (go_at_call 18; refine (rinitial_any name _).mono ?_; rintro e w7 ⟨rfl, hb7⟩))
  have K7 := Lib.hid (((Kept.of_below (S := fun _ => False) HB2.out).trans (hq3.kept _)).trans (Kept.of_below hb7))
  clear hq3 hb7
  obtain ⟨i0, hi0, hz0, hz1, hz2⟩ := info_parts info_decl
  go_loopw [50] (fun i wr => ∃ k : Nat, k ≤ ds.length ∧ i = .int .i64 k ∧ Hid (Kept (fun _ => False) w wr)) (fun i _ => ds.length - (intOf i).toNat)
  case atStart => exact ⟨0, by omega, rfl, K7⟩
  case round =>
    obtain ⟨i, hi, rfl, HK⟩ := hrel
    by_cases hlt : i < ds.length
    · have hx := List.getElem?_eq_getElem hlt
      generalize hgx : ds[i] = x at hx
      clear hgx
      obtain ⟨b, off, rfl, g0, g1, g2⟩ := DeclsAt.at (decls_firm.kept H.out HK.out) hx
      have hxl := HONE.out x (List.mem_of_getElem? hx)
      clear hx
      go_wp2_with fail
      obtain ⟨wa, HWA⟩ : ∃ x', Hid (wr.alloc (.cells #[.string (str x.name), .string (str x.val), .bool x.strong] 30 (0,0)) = x') := ⟨_, rfl⟩
      have ka : Kept (fun _ => False) w wa := by rw [← HWA.out]; exact HK.out.alloc _
      have hn : wa.heap[wr.heap.size]? = some (.cells #[.string (str x.name), .string (str x.val), .bool x.strong] 30 (0,0)) := by rw [← HWA.out]; exact newIn wr _
      have hm1 : wa.cell? ⟨0, 0, none⟩ = some (.int .i64 m) := ka.cell id HM.out
      have KA := Lib.hid ka
      have HN := Lib.hid hn
      clear ka hn g0 g1 g2
      rw [HWA.out]
      refine (expand_any x wa m hm1 hxl).mono ?_
      intro e w3 hE
      obtain ⟨a3, c3, rfl, hb3, hd3, hc3, hc3'⟩ := hE.uni
      obtain ⟨R3, HR3⟩ : ∃ R, Hid (pExpand x = R) := ⟨_, rfl⟩
      rw [HR3.out] at hd3 hc3 ⊢
      obtain ⟨n3, HN3⟩ : ∃ n, Hid ((R3.getD []).length = n) := ⟨_, rfl⟩
      rw [HN3.out] at hd3 hc3 ⊢
      obtain ⟨er3, HER3⟩ : ∃ n, Hid (errOf R3 = n) := ⟨_, rfl⟩
      rw [HER3.out]
      have HD3 := Lib.hid hd3
      have K3 := Lib.hid (KA.out.trans (Kept.of_below hb3))
      have hn3 := (Kept.of_below (S := fun _ => False) hb3).heap id HN.out
      have n0 : w3.cell? ⟨wr.heap.size, 0, none⟩ = some (.string (str x.name)) := cellIn hn3 0 rfl
      have n1 : w3.cell? ⟨wr.heap.size, 1, none⟩ = some (.string (str x.val)) := cellIn hn3 1 rfl
      have n2 : w3.cell? ⟨wr.heap.size, 2, none⟩ = some (.bool x.strong) := cellIn hn3 2 rfl
      unfold maxLen at hc3'
      clear hE hb3 hd3 hn3 hm1
      go_wp2_with fail
      obtain ⟨wb, HWB⟩ : ∃ x', Hid (w3.alloc (.cells #[.string (str x.name), .string (str x.val), .bool x.strong] 30 (0,0)) = x') := ⟨_, rfl⟩
      have hone1 : DeclsAt wb (.slice (some ⟨w3.heap.size, 0, none⟩) 1 1) [x] := by
        rw [← HWB.out]
        refine ⟨_, _, rfl, Nat.le_refl _, by unfold maxLen; omega, fun _ => ⟨_, _, rfl, fun i r hr j c hc => ?_⟩⟩
        cases i with
        | zero =>
          simp at hr; subst hr
          rw [cell_of_row _ _ _ _ _ _ (newIn w3 _)]
          simpa [declCells] using hc
        | succ i => simp at hr
      have kb : Kept (fun _ => False) w3 wb := by rw [← HWB.out]; exact (Kept.refl _ w3).alloc _
      have HD3b := Lib.hid (decls_firm.kept HD3.out kb)
      have KB := Lib.hid (K3.out.trans kb)
      clear kb n0 n1 n2
      rw [HWB.out]
      refine (rall_any wb _ [x] hone1 (by simp) (by simpa using hxl)).mono ?_
      intro e w4 hE
      obtain ⟨a4, c4, rfl, hb4, hd4, hc4, hc4'⟩ := hE.uni
      rw [pAll_one, HR3.out] at hd4 hc4 ⊢
      rw [HN3.out] at hd4 hc4 ⊢
      rw [HER3.out]
      have HD4 := Lib.hid hd4
      have HD34 := Lib.hid (decls_firm _ _ _ _ HD3b.out hb4)
      have K4 := Lib.hid (KB.out.trans (Kept.of_below hb4))
      unfold maxLen at hc4'
      clear hE hb4 hd4 hone1
      go_wp2_with (go_at_call 14; refine (sameDecls_any _ _ _ _ HD34.out HD4.out).mono ?_; rintro e w5 ⟨rfl, hq5⟩)
      go_roundw
      case measure => simp [intOf]; omega
      case rel => exact ⟨i + 1, by omega, by go_num, Lib.hid (K4.out.trans (hq5.kept _))⟩
    · go_wp2
      go_ret
      exact ⟨rfl, HK.out.below⟩
end Go.Proofs.YtplbdlgmjehckaaDoor
