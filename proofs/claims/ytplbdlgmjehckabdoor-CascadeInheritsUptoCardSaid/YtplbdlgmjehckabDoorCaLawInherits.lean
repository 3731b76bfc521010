/-
  inklaw5.CascadeInherits: from parent to child.
-/
import Derived.Test.YtplbdlgmjehckabDoorCaCore
namespace Go.Proofs.YtplbdlgmjehckabDoor
open Go.RowKit
set_option linter.unusedVariables false
set_option linter.unusedSimpArgs false

theorem value_fact {ns : List PNode} {k : Nat} {n : PNode} (h : ns[k]? = some n) (rs : List PRule) (media : List B) (name : B) {look : List PDecl} (hD : cDeclared ns (k : Int) rs media = .ok look) (hp : n.parent < (k : Int)) :
    (∃ d, lookFind look name = some d ∧ cValue ns (k : Int) rs media name = .ok d.val) ∨
    (lookFind look name = none ∧ pInherits name = true ∧ 0 ≤ n.parent ∧ cValue ns (k : Int) rs media name = cValue ns n.parent rs media name) ∨
    (lookFind look name = none ∧ (pInherits name = false ∨ n.parent < 0) ∧ cValue ns (k : Int) rs media name = .ok (pInitial name)) := by
  have hv : cValue ns (k : Int) rs media name = (match lookFind look name with
            | some d => .ok d.val
            | none => if pInherits name && decide (0 ≤ n.parent) && decide (n.parent < (k : Int)) then cValueF k ns n.parent rs media name else .ok (pInitial name)) := by
    unfold cValue
    conv => lhs; unfold cValueF
    rw [hD, Ans.ok_then]
    simp only [Int.toNat_natCast, parent_of h]
    rfl
  rw [hv]
  cases lookFind look name with
  | some d => exact .inl ⟨d, rfl, rfl⟩
  | none =>
    right
    simp only
    cases hi : pInherits name with
    | false => exact .inr ⟨trivial, .inl rfl, by simp⟩
    | true =>
      by_cases h0 : 0 ≤ n.parent
      · left
        refine ⟨trivial, rfl, h0, ?_⟩
        rw [if_pos (by simp; omega)]
        exact value_fuel ns rs media name _ _ _ (by omega) (by omega)
      · exact .inr ⟨trivial, .inr (by omega), by rw [if_neg (by simp; omega)]⟩
theorem value_bad {ns : List PNode} {k : Int} {rs : List PRule} {media : List B} {name : B} {f : Flt} (h : cDeclared ns k rs media = .bad f) : cValue ns k rs media name = .bad f := by
  unfold cValue cValueF
  rw [h]; rfl

set_option maxRecDepth 100000 in
set_option maxHeartbeats 6400000 in
theorem inherits5_any (ns : List PNode) (rs : List PRule) (hc : CaCtx ns rs) (media : List B) (name : B) (k : Int) (hk : -9223372036854775808 ≤ k ∧ k ≤ 9223372036854775807) (m : Int) (w : World) (v rv mv : Value) (hv : NodesAt w v ns) (hr : RulesAt w rv rs) (hmv : StrsAt w mv media) (hm : w.cell? ⟨0, 0, none⟩ = some (.int .i64 m)) :
    Calls Tryd.prog 5 #[v, .int .i64 k, rv, mv, .string (str name)] w fun e w' => e = .returned (.bool true) ∧ Kept (fun _ => False) w w' := by
  obtain ⟨na, ncap, rfl, hnc1, hnc2⟩ := hv.form
  obtain ⟨ra, rcap, rfl, hrc1, hrc2⟩ := NestAt.form hr
  obtain ⟨ma, mcap, rfl, hmc1, hmc2⟩ := StrsAt.form hmv
  unfold maxLen at hnc2 hrc2 hmc2
  have HAL := Lib.hid (alive5_any w m hm)
  by_cases h0 : k < 0
  · clear hc hv hr hmv hm
    go_enter Tryd.func5, Tryd.ntmps5
    go_wp2_with (go_at_call 6; refine HAL.out.mono ?_; rintro e w1 ⟨rfl, hk1⟩)
    go_ret
    exact ⟨rfl, hk1⟩
  by_cases h1 : (ns.length : Int) ≤ k
  · clear hc hv hr hmv hm
    go_enter Tryd.func5, Tryd.ntmps5
    go_wp2_with (go_at_call 6; refine HAL.out.mono ?_; rintro e w1 ⟨rfl, hk1⟩)
    go_ret
    exact ⟨rfl, hk1⟩
  obtain ⟨kn, rfl⟩ : ∃ kn : Nat, k = kn := ⟨k.toNat, by omega⟩
  have hkl : kn < ns.length := by omega
  have hx := List.getElem?_eq_getElem hkl
  generalize hgx : ns[kn] = n at hx
  clear hgx
  have HX := Lib.hid hx
  have HCC := Lib.hid hc
  have HV := Lib.hid hv
  have HRS := Lib.hid hr
  have HMV := Lib.hid hmv
  have HM := Lib.hid hm
  have HFT := Lib.hid (hc.nodes.fit n (List.mem_of_getElem? hx))
  clear hc hv hr hmv hm hx
  go_enter Tryd.func5, Tryd.ntmps5
  go_wp2_with fail
  refine HAL.out.mono ?_
  rintro e w1 ⟨rfl, hk1⟩
  obtain ⟨nb, noff, av, rfl, g0, g1, g2, g3, g4, g5, hav⟩ := (nodes_firm.kept HV.out hk1).at HX.out
  have HK1 := Lib.hid hk1
  clear g0 g2 g3 g4 g5 hav hk1
  by_cases hpk : (kn : Int) ≤ n.parent
  · go_wp2_with fail
    go_ret
    exact ⟨rfl, HK1.out⟩
  have HDC := declared_any ns rs HCC.out media (kn : Int) (by omega) m w1 _ _ _ (nodes_firm.kept HV.out HK1.out) (rules_firm.kept HRS.out HK1.out) (RowsAt.below HMV.out HK1.out.below) (HK1.out.cell id HM.out)
  obtain ⟨D, HD⟩ : ∃ x, Hid (cDeclared ns (kn : Int) rs media = x) := ⟨_, rfl⟩
  rw [HD.out] at HDC
  replace HDC := Lib.hid HDC
  go_wp2_with fail
  refine HDC.out.mono ?_
  intro e w2 he2
  cases D with
  | bad f =>
    obtain ⟨rfl, hk2, hne⟩ := he2
    have hneI : ((f.err : Int) != 0) = true := by simp; omega
    have HK2 := Lib.hid (HK1.out.trans hk2)
    have q1 := hk2.cell id g1
    have HVL := value_any ns rs HCC.out media name (kn : Int) (by omega) m w2 _ _ _ (nodes_firm.kept HV.out HK2.out) (rules_firm.kept HRS.out HK2.out) (RowsAt.below HMV.out HK2.out.below) (HK2.out.cell id HM.out)
    rw [value_bad HD.out] at HVL
    replace HVL := Lib.hid HVL
    clear g1 hk2
    go_wp2_with fail
    refine HVL.out.mono ?_
    rintro e w3 ⟨rfl, hk3, _⟩
    go_wp2_with fail
    go_ret
    exact ⟨rfl, HK2.out.trans hk3⟩
  | ok look =>
    obtain ⟨lv, rfl, hk2, hlv, hlf⟩ := he2
    obtain ⟨la, lc, rfl, hlc1, hlc2⟩ := DeclsAt.form hlv
    unfold maxLen at hlc2
    have HK2 := Lib.hid (HK1.out.trans hk2)
    have q1 := hk2.cell id g1
    have HLV := Lib.hid hlv
    have HVL := value_any ns rs HCC.out media name (kn : Int) (by omega) m w2 _ _ _ (nodes_firm.kept HV.out HK2.out) (rules_firm.kept HRS.out HK2.out) (RowsAt.below HMV.out HK2.out.below) (HK2.out.cell id HM.out)
    have hfact := value_fact HX.out rs media name HD.out (by omega)
    obtain ⟨R, HR⟩ : ∃ x, Hid (cValue ns (kn : Int) rs media name = x) := ⟨_, rfl⟩
    rw [HR.out] at HVL hfact
    replace HVL := Lib.hid HVL
    have HFACT := Lib.hid hfact
    clear g1 hk2 hlv hfact
    go_wp2_with fail
    refine HVL.out.mono ?_
    intro e w3 he3
    cases R with
    | bad f =>
      obtain ⟨rfl, hk3, hne⟩ := he3
      have hneI : ((f.err : Int) != 0) = true := by simp; omega
      have hp0 : 0 ≤ n.parent := by
        rcases HFACT.out with ⟨d, _, h⟩ | ⟨_, _, h, _⟩ | ⟨_, _, h⟩
        · cases h
        · exact h
        · cases h
      have r1 := hk3.cell id q1
      have HK3 := Lib.hid (HK2.out.trans hk3)
      generalize n.parent = par at *
      clear hk3
      go_wp2_with fail
      go_ret
      exact ⟨rfl, HK3.out⟩
    | ok s =>
      obtain ⟨rfl, hk3⟩ := he3
      have r1 := hk3.cell id q1
      have HK3 := Lib.hid (HK2.out.trans hk3)
      have HLV3 := Lib.hid (RowsAt.below HLV.out hk3.below)
      clear hk3 q1
      go_wp2_with fail
      go_loopw [72] (fun c wr => ∃ i : Nat, i ≤ look.length ∧ c = .int .i64 (i : Int) ∧ Hid (Kept (fun _ => False) w3 wr) ∧ Hid (lookFind (look.drop i) name = lookFind look name)) (fun c _ => look.length - (intOf c).toNat)
      case atStart => exact ⟨0, by omega, rfl, Lib.hid (Kept.refl _ _), Lib.hid (by rw [List.drop_zero])⟩
      case round =>
        obtain ⟨i, hi, rfl, HK, HF⟩ := hrel
        obtain ⟨wr0, hwr0⟩ : ∃ x, x = wr := ⟨_, rfl⟩
        subst hwr0
        by_cases hlt : i < look.length
        · have hy := List.getElem?_eq_getElem hlt
          generalize hgy : look[i] = x at hy
          clear hgy
          obtain ⟨b, o, rfl, c0, c1, c2⟩ := DeclsAt.at (RowsAt.below HLV3.out HK.out.below) hy
          have hfd := find_drop (n := name) hy
          cases hb : (x.name == name) with
          | true =>
            rw [hb] at hfd
            have hsv : Hid ((s == x.val) = true) := Lib.hid (by
              have h1 : lookFind look name = some x := by rw [← HF.out, hfd]; rfl
              rcases HFACT.out with ⟨d, h2, h3⟩ | ⟨h2, _⟩ | ⟨h2, _⟩
              · rw [h1] at h2; cases h2; cases h3; simp
              · rw [h1] at h2; cases h2
              · rw [h1] at h2; cases h2)
            have hsv' := hsv.out
            clear hfd hy
            go_upto_region 12 with fail
            obtain ⟨wd, HWD⟩ : ∃ x', Hid (wr0.alloc (.cells #[.string (str x.name), .string (str x.val), .bool x.strong] 47 (0, 0)) = x') := ⟨_, rfl⟩
            have d0 : wd.cell? ⟨wr0.heap.size, 0, none⟩ = some (.string (str x.name)) := by rw [← HWD.out]; exact cellIn (newIn wr0 _) 0 rfl
            have d1 : wd.cell? ⟨wr0.heap.size, 1, none⟩ = some (.string (str x.val)) := by rw [← HWD.out]; exact cellIn (newIn wr0 _) 1 rfl
            have HKD : Hid (Kept (fun _ => False) w3 wd) := Lib.hid (by rw [← HWD.out]; exact HK.out.alloc _)
            rw [HWD.out]
            go_wp2_with fail
            go_ret
            exact ⟨rfl, HK3.out.trans HKD.out⟩
          | false =>
            rw [hb] at hfd
            have hr : Hid (lookFind (look.drop (i + 1)) name = lookFind look name) := Lib.hid (by rw [← HF.out, hfd]; rfl)
            clear hfd hy
            go_upto_region 12 with fail
            obtain ⟨wd, HWD⟩ : ∃ x', Hid (wr0.alloc (.cells #[.string (str x.name), .string (str x.val), .bool x.strong] 47 (0, 0)) = x') := ⟨_, rfl⟩
            have d0 : wd.cell? ⟨wr0.heap.size, 0, none⟩ = some (.string (str x.name)) := by rw [← HWD.out]; exact cellIn (newIn wr0 _) 0 rfl
            have d1 : wd.cell? ⟨wr0.heap.size, 1, none⟩ = some (.string (str x.val)) := by rw [← HWD.out]; exact cellIn (newIn wr0 _) 1 rfl
            have HKD : Hid (Kept (fun _ => False) w3 wd) := Lib.hid (by rw [← HWD.out]; exact HK.out.alloc _)
            rw [HWD.out]
            go_wp2_with fail
            go_roundw
            case measure => simp [intOf]; omega
            case rel => exact ⟨i + 1, by omega, by go_num, HKD, hr⟩
        · obtain rfl : i = look.length := by omega
          have hnone : Hid (lookFind look name = none) := Lib.hid (by rw [← HF.out, List.drop_length]; rfl)
          have HKW := Lib.hid (HK3.out.trans HK.out)
          have s1 := HK.out.cell id r1
          have HI := inherits_any name wr0
          rcases HFACT.out with ⟨d, h2, _⟩ | ⟨_, h2, h3, h4⟩ | ⟨_, h2, h3⟩
          · exact absurd (hnone.out.symm.trans h2) (by simp)
          · rw [h2] at HI
            replace HI := Lib.hid HI
            have hf := HFT.out
            have HV2 := value_any ns rs HCC.out media name n.parent (by omega) m wr0 _ _ _ (nodes_firm.kept HV.out HKW.out) (rules_firm.kept HRS.out HKW.out) (RowsAt.below HMV.out HKW.out.below) (HKW.out.cell id HM.out)
            rw [← h4] at HV2
            replace HV2 := Lib.hid HV2
            clear h2 h4 HFACT HFT hf
            generalize n.parent = par at *
            go_wp2_with (go_at_call 12; refine HI.out.mono ?_; rintro e w5 ⟨rfl, rfl⟩)
            refine HV2.out.mono ?_
            rintro e w6 ⟨rfl, hk6⟩
            go_wp2_with fail
            go_ret
            exact ⟨rfl, HKW.out.trans hk6⟩
          · cases h3
            have HIN := Lib.hid (initial_any name wr0)
            cases hin : pInherits name with
            | false =>
              rw [hin] at HI
              replace HI := Lib.hid HI
              clear h2 HFACT
              go_wp2_with (first | (go_at_call 12; refine HI.out.mono ?_; rintro e w5 ⟨rfl, rfl⟩) | (go_at_call 13; refine HIN.out.mono ?_; rintro e w6 ⟨rfl, rfl⟩))
              go_ret
              exact ⟨rfl, HKW.out⟩
            | true =>
              rw [hin] at HI
              replace HI := Lib.hid HI
              have hneg : n.parent < 0 := h2.resolve_left (by rw [hin]; simp)
              clear h2 HFACT HFT
              generalize n.parent = par at *
              go_wp2_with (first | (go_at_call 12; refine HI.out.mono ?_; rintro e w5 ⟨rfl, rfl⟩) | (go_at_call 13; refine HIN.out.mono ?_; rintro e w6 ⟨rfl, rfl⟩))
              go_ret
              exact ⟨rfl, HKW.out⟩
end Go.Proofs.YtplbdlgmjehckabDoor
