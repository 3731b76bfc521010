/-
  inklaw4.PropsEdge.
-/
import Derived.Test.YtplbdlgmjehckaaDoorPrLawPlain
import Derived.Test.YtplbdlgmjehckaaDoorBts
namespace Go.Proofs.YtplbdlgmjehckaaDoor
open Go.RowKit
set_option linter.unusedVariables false
set_option linter.unusedSimpArgs false

theorem joinB_len : ∀ ws : List B, (joinB ws).length ≤ (ws.map fun w => w.length + 1).sum
  | [] => by simp [joinB]
  | [w] => by simp [joinB]
  | w :: x :: ws => by
    have := joinB_len (x :: ws)
    simp only [joinB, List.map_cons, List.sum_cons, List.length_append] at this ⊢
    simp at this ⊢
    omega
theorem joinB_push : ∀ (ws : List B) (x : B), ws ≠ [] → joinB (ws ++ [x]) = joinB ws ++ ([32] ++ x)
  | [], x, h => absurd rfl h
  | [w], x, _ => by simp [joinB]
  | w :: y :: ws, x, _ => by
    have := joinB_push (y :: ws) x (by simp)
    simp only [List.cons_append, joinB] at this ⊢
    rw [this]; simp

set_option maxRecDepth 100000 in
set_option maxHeartbeats 3200000 in
theorem propsEdge_any (w : World) (v : Value) (ss : List B) (h : StrsAt w v ss) (hN : (ss.map fun x => x.length + 1).sum ≤ 1048576) (m : Int) (hm : w.cell? ⟨0, 0, none⟩ = some (.int .i64 m)) :
    Calls Tryd.prog 3 #[v] w fun e w' => e = .returned (.bool true) ∧ Below w.heap.size w w' := by
  obtain ⟨av, cv, rfl, hcv1, hcv2⟩ := StrsAt.form h
  unfold maxLen at hcv2
  have hlen : ss.length ≤ 1048576 := by
    have : ∀ l : List B, l.length ≤ (l.map fun x => x.length + 1).sum := fun l => by
      induction l with
      | nil => simp
      | cons x l ih => simp only [List.length_cons, List.map_cons, List.sum_cons]; omega
    have := this ss
    omega
  have hmem : ∀ x ∈ ss, x.length + 1 ≤ 1048576 := fun x hx => by
    have : ∀ (l : List B), x ∈ l → x.length + 1 ≤ (l.map fun x => x.length + 1).sum := fun l => by
      induction l with
      | nil => simp
      | cons y l ih =>
        intro hy
        simp only [List.map_cons, List.sum_cons]
        rcases List.mem_cons.1 hy with rfl | hy
        · omega
        · have := ih hy; omega
    exact Nat.le_trans (this ss hx) hN
  have H := Lib.hid h
  have HM := Lib.hid hm
  have HMEM := Lib.hid hmem
  clear h hm hmem
  go_enter Tryd.func3, Tryd.ntmps3
  go_wp2_with fail
  refine (alive4_any _ m HM.out).mono ?_
  rintro e w0 ⟨rfl, hb0⟩
  have K0 := Lib.hid (Kept.of_below (S := fun _ => False) hb0)
  clear hb0
  go_upto_block 0 with fail
  go_cut [3] (fun s wx => ss.length ≤ 4 ∧ s = .string (str (joinB ss)) ∧ (∀ x ∈ ss, x ≠ [] ∧ ∀ c ∈ x, c ≠ 32) ∧ Kept (fun _ => False) w wx)
  case first =>
    go_wp2_with fail
    go_loopw [3, 14] (fun s i wr => ∃ k : Nat, k ≤ ss.length ∧ k ≤ 4 ∧ i = .int .i64 k ∧ s = .string (str (joinB (ss.take k))) ∧ Hid (∀ x ∈ ss.take k, x ≠ [] ∧ ∀ c ∈ x, c ≠ 32) ∧ Hid (Kept (fun _ => False) w wr)) (fun _ i _ => ss.length - (intOf i).toNat)
    case atStart => exact ⟨0, by omega, by omega, rfl, rfl, Lib.hid (by simp), K0⟩
    case round =>
      obtain ⟨i, hi, hi4, rfl, rfl, HP, HK⟩ := hrel
      obtain ⟨wr0, hwr0⟩ : ∃ x, x = wr := ⟨_, rfl⟩
      subst hwr0
      by_cases hlt : i < ss.length
      · have hx := List.getElem?_eq_getElem hlt
        generalize hgx : ss[i] = x at hx
        clear hgx
        obtain ⟨b, off, rfl, g0⟩ := StrsAt.at (strs_firm.kept H.out HK.out) hx
        have hxl := HMEM.out x (List.mem_of_getElem? hx)
        have HX := Lib.hid hx
        clear hx
        obtain ⟨J, HJ⟩ : ∃ j, Hid (joinB (ss.take i) = j) := ⟨_, rfl⟩
        have hJl : J.length ≤ 4194304 := by
          rw [← HJ.out]
          have h1 := joinB_len (ss.take i)
          have h2 : ((ss.take i).map fun w => w.length + 1).sum ≤ (ss.map fun w => w.length + 1).sum := by
            rw [← List.take_append_drop i ss, List.map_append, List.sum_append]
            simp
          omega
        rw [HJ.out]
        cases hc : (x == []) with
        | true =>
          go_wp2_with fail
          go_ret
          exact ⟨rfl, HK.out.below⟩
        | false =>
          by_cases hi3 : 3 < i
          · have hi3' : 3 < (i : Int) := by omega
            go_wp2_with fail
            go_ret
            exact ⟨rfl, HK.out.below⟩
          · have hi3' : ¬ 3 < (i : Int) := by omega
            obtain ⟨wb, cp, hcv, kb, hbc⟩ := bytes_of x wr0
            have KB := Lib.hid (HK.out.trans kb)
            have HBC := Lib.hid hbc
            have hxp : Hid (x ≠ []) := Lib.hid (by simpa using hc)
            clear kb hbc
            go_upto_block 2 with fail
            go_cut [7] (fun _ wx => (∀ c ∈ x, c ≠ 32) ∧ wx = wb)
            case first =>
              clear hcv
              go_wp2_with fail
              go_loopw [28] (fun j wx => ∃ k : Nat, k ≤ x.length ∧ j = .int .i64 k ∧ wx = wb ∧ Hid (∀ l (hl : l < x.length), l < k → x[l] ≠ 32)) (fun j _ => x.length - (intOf j).toNat)
              case atStart => exact ⟨0, by omega, rfl, rfl, Lib.hid (fun l _ h => by omega)⟩
              case round =>
                obtain ⟨j, hj, rfl, rfl, HJ⟩ := hrel
                by_cases hjl : j < x.length
                · have q0 := HBC.out j hjl
                  by_cases h32 : x[j] = 32
                  · have g : (((x[j]'hjl).toNat : Int) == 32) = true := by rw [h32]; rfl
                    clear h32
                    go_wp2_with fail
                    go_ret
                    exact ⟨rfl, KB.out.below⟩
                  · have g : (((x[j]'hjl).toNat : Int) == 32) = false := by
                      simp only [beq_eq_false_iff_ne, ne_eq]
                      intro h
                      exact h32 (UInt8.toNat_inj.1 (by have e32 : (32 : UInt8).toNat = 32 := rfl; omega))
                    have H32 := Lib.hid h32
                    clear h32
                    go_wp2_with fail
                    go_roundw
                    case measure => simp [intOf]; omega
                    case rel =>
                      refine ⟨j + 1, by omega, by go_num, trivial, Lib.hid (fun l hl h => ?_)⟩
                      by_cases e : l = j
                      · subst e; exact H32.out
                      · exact HJ.out l hl (by omega)
                · go_wp2_with fail
                  go_meet
                  case rel =>
                    refine ⟨fun c hc => ?_, rfl⟩
                    obtain ⟨l, hl, rfl⟩ := List.mem_iff_getElem.1 hc
                    exact HJ.out l hl (by omega)
            case rest =>
              obtain ⟨hpl, rfl⟩ := hcut
              have HPL := Lib.hid hpl
              clear hpl hcv
              have hP2 : Hid (∀ y ∈ ss.take (i + 1), y ≠ [] ∧ ∀ c ∈ y, c ≠ 32) := Lib.hid (fun y hy => by
                rw [List.take_add_one, HX.out] at hy
                rcases List.mem_append.1 hy with hy | hy
                · exact HP.out y hy
                · simp at hy; subst hy; exact ⟨hxp.out, HPL.out⟩)
              by_cases hi0 : i = 0
              · have e0 : ¬ 0 < (i : Int) := by omega
                have hJ0 : Hid (J ++ x = joinB (ss.take (i + 1))) := Lib.hid (by
                  rw [← HJ.out, List.take_add_one, HX.out, hi0]; simp [joinB])
                clear hi0
                go_wp2_with fail
                go_roundw
                case measure => simp [intOf]; omega
                case rel => exact ⟨i + 1, by omega, by omega, by go_num, by rw [← hJ0.out], hP2, KB⟩
              · have e0 : 0 < (i : Int) := by omega
                have hJ0 : Hid (J ++ ([32] ++ x) = joinB (ss.take (i + 1))) := Lib.hid (by
                  rw [← HJ.out, List.take_add_one, HX.out, Option.toList_some, joinB_push]
                  intro h0
                  have h2 : (ss.take i).length = i := by rw [List.length_take]; omega
                  rw [h0] at h2
                  simp at h2; omega)
                clear hi0
                go_wp2_with fail
                go_roundw
                case measure => simp [intOf]; omega
                case rel => exact ⟨i + 1, by omega, by omega, by go_num, by rw [← hJ0.out]; simp, hP2, KB⟩
      · have HE : Hid (i = ss.length) := Lib.hid (by omega)
        go_wp2_with fail
        go_meet
        case rel =>
          have h1 := HE.out
          have h2 := HP.out
          rw [h1, List.take_length] at h2 ⊢
          exact ⟨by omega, rfl, h2, HK.out⟩
  case rest =>
    obtain ⟨h4, rfl, hpl, hk⟩ := hcut
    have K := Lib.hid hk
    by_cases h0 : ss = []
    · subst h0
      clear hpl hk
      go_wp2_with fail
      go_ret
      exact ⟨rfl, K.out.below⟩
    · have hjl : (joinB ss).length ≤ 1048576 := by have := joinB_len ss; omega
      have hs := splitB_join h0 (fun x hx => (hpl x hx).2)
      have hm1 := hk.cell id HM.out
      have hE := expand_any ⟨edgeName, joinB ss, false⟩ wc m hm1 hjl
      have hne : ((ss.length : Int) == 0) = false := by
        have := List.length_pos_iff.2 h0
        simp; omega
      rw [expand_four rfl hs] at hE
      have HE := Lib.hid hE
      have hst := strs_firm.kept H.out hk
      have HST := Lib.hid hst
      clear hpl hk hE hst hm1 hs
      obtain ⟨lb, lo, rfl⟩ : ∃ lb lo, av = some ⟨lb, lo, none⟩ := RowsAt.addr HST.out (by simpa using h0)
      match ss, h0, h4 with
      | [a], _, _ =>
        go_wp2_with fail
        refine HE.out.mono ?_
        intro e w1 hX
        obtain ⟨v1, rfl, hb1, hd1, _⟩ := hX
        have K1 := Lib.hid (K.out.trans (Kept.of_below hb1))
        have hst := strs_firm _ _ _ _ HST.out hb1
        obtain ⟨da, dc, rfl, hdc1, hdc2⟩ := DeclsAt.form hd1
        unfold maxLen at hdc2
        change 4 ≤ dc at hdc1
        obtain ⟨lb0, lo0, hbb0, l0⟩ := StrsAt.at hst (k := 0) (x := a) rfl
        cases hbb0
        obtain ⟨db, do_, rfl, _, d0, _⟩ := DeclsAt.at hd1 (k := 0) (x := ⟨edgeTop, a, false⟩) rfl
        obtain ⟨db1, do1, hdb1, _, d1, _⟩ := DeclsAt.at hd1 (k := 1) (x := ⟨edgeRight, a, false⟩) rfl
        cases hdb1
        obtain ⟨db2, do2, hdb2, _, d2, _⟩ := DeclsAt.at hd1 (k := 2) (x := ⟨edgeBottom, a, false⟩) rfl
        cases hdb2
        obtain ⟨db3, do3, hdb3, _, d3, _⟩ := DeclsAt.at hd1 (k := 3) (x := ⟨edgeLeft, a, false⟩) rfl
        cases hdb3
        rw [show (edges a a a a false).length = 4 from rfl]
        simp only [Nat.zero_mul, Nat.add_zero, Nat.reduceMul] at d0 d1 d2 d3 l0
        clear hd1 hst hb1
        go_wp2_with fail
        go_quiet (fail)
        go_wp2_with fail
        go_quiet (fail)
        go_wp2_with fail
        go_ret
        exact ⟨rfl, ((K1.out.drewN _).drewN _).below⟩
      | [a, b], _, _ =>
        go_wp2_with fail
        refine HE.out.mono ?_
        intro e w1 hX
        obtain ⟨v1, rfl, hb1, hd1, _⟩ := hX
        have K1 := Lib.hid (K.out.trans (Kept.of_below hb1))
        have hst := strs_firm _ _ _ _ HST.out hb1
        obtain ⟨da, dc, rfl, hdc1, hdc2⟩ := DeclsAt.form hd1
        unfold maxLen at hdc2
        change 4 ≤ dc at hdc1
        obtain ⟨lb0, lo0, hbb0, l0⟩ := StrsAt.at hst (k := 0) (x := a) rfl
        cases hbb0
        obtain ⟨lb1, lo1, hbb1, l1⟩ := StrsAt.at hst (k := 1) (x := b) rfl
        cases hbb1
        obtain ⟨db, do_, rfl, _, d0, _⟩ := DeclsAt.at hd1 (k := 0) (x := ⟨edgeTop, a, false⟩) rfl
        obtain ⟨db1, do1, hdb1, _, d1, _⟩ := DeclsAt.at hd1 (k := 1) (x := ⟨edgeRight, b, false⟩) rfl
        cases hdb1
        obtain ⟨db2, do2, hdb2, _, d2, _⟩ := DeclsAt.at hd1 (k := 2) (x := ⟨edgeBottom, a, false⟩) rfl
        cases hdb2
        obtain ⟨db3, do3, hdb3, _, d3, _⟩ := DeclsAt.at hd1 (k := 3) (x := ⟨edgeLeft, b, false⟩) rfl
        cases hdb3
        rw [show (edges a b a b false).length = 4 from rfl]
        simp only [Nat.zero_mul, Nat.add_zero, Nat.reduceMul] at d0 d1 d2 d3 l0 l1
        clear hd1 hst hb1
        go_wp2_with fail
        go_quiet (fail)
        go_wp2_with fail
        go_quiet (fail)
        go_wp2_with fail
        go_ret
        exact ⟨rfl, ((K1.out.drewN _).drewN _).below⟩
      | [a, b, c], _, _ =>
        go_wp2_with fail
        refine HE.out.mono ?_
        intro e w1 hX
        obtain ⟨v1, rfl, hb1, hd1, _⟩ := hX
        have K1 := Lib.hid (K.out.trans (Kept.of_below hb1))
        have hst := strs_firm _ _ _ _ HST.out hb1
        obtain ⟨da, dc, rfl, hdc1, hdc2⟩ := DeclsAt.form hd1
        unfold maxLen at hdc2
        change 4 ≤ dc at hdc1
        obtain ⟨lb0, lo0, hbb0, l0⟩ := StrsAt.at hst (k := 0) (x := a) rfl
        cases hbb0
        obtain ⟨lb1, lo1, hbb1, l1⟩ := StrsAt.at hst (k := 1) (x := b) rfl
        cases hbb1
        obtain ⟨lb2, lo2, hbb2, l2⟩ := StrsAt.at hst (k := 2) (x := c) rfl
        cases hbb2
        obtain ⟨db, do_, rfl, _, d0, _⟩ := DeclsAt.at hd1 (k := 0) (x := ⟨edgeTop, a, false⟩) rfl
        obtain ⟨db1, do1, hdb1, _, d1, _⟩ := DeclsAt.at hd1 (k := 1) (x := ⟨edgeRight, b, false⟩) rfl
        cases hdb1
        obtain ⟨db2, do2, hdb2, _, d2, _⟩ := DeclsAt.at hd1 (k := 2) (x := ⟨edgeBottom, c, false⟩) rfl
        cases hdb2
        obtain ⟨db3, do3, hdb3, _, d3, _⟩ := DeclsAt.at hd1 (k := 3) (x := ⟨edgeLeft, b, false⟩) rfl
        cases hdb3
        rw [show (edges a b c b false).length = 4 from rfl]
        simp only [Nat.zero_mul, Nat.add_zero, Nat.reduceMul] at d0 d1 d2 d3 l0 l1 l2
        clear hd1 hst hb1
        go_wp2_with fail
        go_quiet (fail)
        go_wp2_with fail
        go_quiet (fail)
        go_wp2_with fail
        go_ret
        exact ⟨rfl, ((K1.out.drewN _).drewN _).below⟩
      | [a, b, c, d], _, _ =>
        go_wp2_with fail
        refine HE.out.mono ?_
        intro e w1 hX
        obtain ⟨v1, rfl, hb1, hd1, _⟩ := hX
        have K1 := Lib.hid (K.out.trans (Kept.of_below hb1))
        have hst := strs_firm _ _ _ _ HST.out hb1
        obtain ⟨da, dc, rfl, hdc1, hdc2⟩ := DeclsAt.form hd1
        unfold maxLen at hdc2
        change 4 ≤ dc at hdc1
        obtain ⟨lb0, lo0, hbb0, l0⟩ := StrsAt.at hst (k := 0) (x := a) rfl
        cases hbb0
        obtain ⟨lb1, lo1, hbb1, l1⟩ := StrsAt.at hst (k := 1) (x := b) rfl
        cases hbb1
        obtain ⟨lb2, lo2, hbb2, l2⟩ := StrsAt.at hst (k := 2) (x := c) rfl
        cases hbb2
        obtain ⟨lb3, lo3, hbb3, l3⟩ := StrsAt.at hst (k := 3) (x := d) rfl
        cases hbb3
        obtain ⟨db, do_, rfl, _, d0, _⟩ := DeclsAt.at hd1 (k := 0) (x := ⟨edgeTop, a, false⟩) rfl
        obtain ⟨db1, do1, hdb1, _, d1, _⟩ := DeclsAt.at hd1 (k := 1) (x := ⟨edgeRight, b, false⟩) rfl
        cases hdb1
        obtain ⟨db2, do2, hdb2, _, d2, _⟩ := DeclsAt.at hd1 (k := 2) (x := ⟨edgeBottom, c, false⟩) rfl
        cases hdb2
        obtain ⟨db3, do3, hdb3, _, d3, _⟩ := DeclsAt.at hd1 (k := 3) (x := ⟨edgeLeft, d, false⟩) rfl
        cases hdb3
        rw [show (edges a b c d false).length = 4 from rfl]
        simp only [Nat.zero_mul, Nat.add_zero, Nat.reduceMul] at d0 d1 d2 d3 l0 l1 l2 l3
        clear hd1 hst hb1
        go_wp2_with fail
        go_quiet (fail)
        go_wp2_with fail
        go_quiet (fail)
        go_wp2_with fail
        go_ret
        exact ⟨rfl, ((K1.out.drewN _).drewN _).below⟩
end Go.Proofs.YtplbdlgmjehckaaDoor
