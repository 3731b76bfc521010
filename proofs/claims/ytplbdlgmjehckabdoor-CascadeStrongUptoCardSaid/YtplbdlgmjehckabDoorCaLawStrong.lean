/-
  inklaw5.CascadeStrong: who is strong wins.
-/
import Derived.Test.YtplbdlgmjehckabDoorCaCore
import Derived.Test.YtplbdlgmjehckabDoorCaLaws
namespace Go.Proofs.YtplbdlgmjehckabDoor
open Go.RowKit
set_option linter.unusedVariables false
set_option linter.unusedSimpArgs false

def thereP (x y : PDecl) : Bool := y.name == x.name && (y.strong || !x.strong)
theorem any_take {look : List PDecl} {i : Nat} {y x : PDecl} (h : look[i]? = some y) : (look.take (i + 1)).any (thereP x) = ((look.take i).any (thereP x) || thereP x y) := by
  rw [List.take_add_one, h, Option.toList_some, List.any_append]; simp
set_option maxRecDepth 100000 in
set_option maxHeartbeats 6400000 in
theorem strong5_any (ns : List PNode) (rs : List PRule) (hc : CaCtx ns rs) (media : List B) (k : Int) (hk : -9223372036854775808 ≤ k ∧ k ≤ 9223372036854775807) (m : Int) (w : World) (v rv mv : Value) (hv : NodesAt w v ns) (hr : RulesAt w rv rs) (hmv : StrsAt w mv media) (hm : w.cell? ⟨0, 0, none⟩ = some (.int .i64 m)) :
    Calls Tryd.prog 4 #[v, .int .i64 k, rv, mv] w fun e w' => e = .returned (.bool true) ∧ Kept (fun _ => False) w w' := by
  obtain ⟨na, ncap, rfl, hnc1, hnc2⟩ := hv.form
  obtain ⟨ra, rcap, rfl, hrc1, hrc2⟩ := NestAt.form hr
  obtain ⟨ma, mcap, rfl, hmc1, hmc2⟩ := StrsAt.form hmv
  unfold maxLen at hnc2 hrc2 hmc2
  have HAL := Lib.hid (alive5_any w m hm)
  have hfr := hc.few
  have HCC := Lib.hid hc
  have HV := Lib.hid hv
  have HRS := Lib.hid hr
  have HMV := Lib.hid hmv
  have HM := Lib.hid hm
  clear hc hv hr hmv hm
  go_enter Tryd.func4, Tryd.ntmps4
  go_wp2_with fail
  refine HAL.out.mono ?_
  rintro e w1 ⟨rfl, hk1⟩
  have HK1 := Lib.hid hk1
  clear hk1
  have HDC := declared_any ns rs HCC.out media k hk m w1 _ _ _ (nodes_firm.kept HV.out HK1.out) (rules_firm.kept HRS.out HK1.out) (RowsAt.below HMV.out HK1.out.below) (HK1.out.cell id HM.out)
  obtain ⟨D, HD⟩ : ∃ x, Hid (cDeclared ns k rs media = x) := ⟨_, rfl⟩
  rw [HD.out] at HDC
  replace HDC := Lib.hid HDC
  go_wp2_with fail
  refine HDC.out.mono ?_
  intro e w2 he2
  cases D with
  | bad f =>
    obtain ⟨rfl, hk2, hne⟩ := he2
    have hneI : ((f.err : Int) != 0) = true := by simp; omega
    go_wp2_with fail
    go_ret
    exact ⟨rfl, HK1.out.trans hk2⟩
  | ok look =>
    obtain ⟨lv, rfl, hk2, hlv, hlf⟩ := he2
    obtain ⟨la, lc, rfl, hlc1, hlc2⟩ := DeclsAt.form hlv
    unfold maxLen at hlc2
    have HK2 := Lib.hid (HK1.out.trans hk2)
    have HLV := Lib.hid hlv
    clear hk2 hlv
    go_wp2_with fail
    go_loopw [39] (fun c wr => ∃ i : Nat, i ≤ rs.length ∧ c = .int .i64 (i : Int) ∧ Hid (Kept (fun _ => False) w2 wr)) (fun c _ => rs.length - (intOf c).toNat)
    case atStart => exact ⟨0, by omega, rfl, Lib.hid (Kept.refl _ _)⟩
    case round =>
      obtain ⟨i, hi, rfl, HK⟩ := hrel
      obtain ⟨wr0, hwr0⟩ : ∃ x, x = wr := ⟨_, rfl⟩
      subst hwr0
      by_cases hlt : i < rs.length
      · have hx := List.getElem?_eq_getElem hlt
        generalize hgx : rs[i] = r at hx
        clear hgx
        obtain ⟨b, o, u, rfl, hcs, hru⟩ := NestAt.at (rules_firm.kept HRS.out (HK2.out.trans HK.out)) hx
        obtain ⟨sv, dv, rfl, hss, hds⟩ := hru
        obtain ⟨sa, sc, rfl, hsc1, hsc2⟩ := NestAt.form hss
        obtain ⟨da, dc, rfl, hdc1, hdc2⟩ := DeclsAt.form hds
        unfold maxLen at hsc2 hdc2
        have c0 : wr0.cell? ⟨b, o + i * 5, none⟩ = some (.string (str r.media)) := hcs 0 _ rfl
        have c1 : wr0.cell? ⟨b, o + i * 5 + 1, none⟩ = some (.slice sa r.sels.length sc) := hcs 1 _ rfl
        have c2 : wr0.cell? ⟨b, o + i * 5 + 2, none⟩ = some (.slice da r.decls.length dc) := hcs 2 _ rfl
        have c3 : wr0.cell? ⟨b, o + i * 5 + 3, none⟩ = some (.int .i64 r.lo) := hcs 3 _ rfl
        have c4 : wr0.cell? ⟨b, o + i * 5 + 4, none⟩ = some (.int .i64 r.hi) := hcs 4 _ rfl
        have hmem := List.mem_of_getElem? hx
        have HFT := Lib.hid (HCC.out.tests r hmem)
        have HVL := Lib.hid (HCC.out.vals r hmem)
        have hnm := nDecls_mem hx
        have hnl := HCC.out.decls
        have hdl : r.decls.length ≤ 1048576 := by omega
        have HMEM := Lib.hid hmem
        go_upto_region 9 with fail
        obtain ⟨wa, HWA⟩ : ∃ x, Hid (wr0.alloc (.cells #[.string (str r.media), (.slice sa r.sels.length sc), (.slice da r.decls.length dc), .int .i64 r.lo, .int .i64 r.hi] 36 (0, 0)) = x) := ⟨_, rfl⟩
        have hba : wa.heap[wr0.heap.size]? = some (.cells #[.string (str r.media), (.slice sa r.sels.length sc), (.slice da r.decls.length dc), .int .i64 r.lo, .int .i64 r.hi] 36 (0, 0)) := by rw [← HWA.out]; exact newIn wr0 _
        have hka : Kept (fun _ => False) wr0 wa := by rw [← HWA.out]; exact (Kept.refl _ wr0).alloc _
        have b0 : wa.cell? ⟨wr0.heap.size, 0, none⟩ = some (.string (str r.media)) := cellIn hba 0 rfl
        have b1 : wa.cell? ⟨wr0.heap.size, 1, none⟩ = some (.slice sa r.sels.length sc) := cellIn hba 1 rfl
        have b2 : wa.cell? ⟨wr0.heap.size, 2, none⟩ = some (.slice da r.decls.length dc) := cellIn hba 2 rfl
        have b3 : wa.cell? ⟨wr0.heap.size, 3, none⟩ = some (.int .i64 r.lo) := cellIn hba 3 rfl
        have b4 : wa.cell? ⟨wr0.heap.size, 4, none⟩ = some (.int .i64 r.hi) := cellIn hba 4 rfl
        have HKA := Lib.hid (HK.out.trans hka)
        obtain ⟨⟨⟨xa, xb, xc⟩, ok⟩, HBS⟩ : ∃ x, Hid (mBest ns k r.sels = x) := ⟨_, rfl⟩
        have HCB : Hid (Calls Tryd.prog 9 #[.slice na ns.length ncap, .int .i64 k, .agg #[.string (str r.media), (.slice sa r.sels.length sc), (.slice da r.decls.length dc), .int .i64 r.lo, .int .i64 r.hi]] wa fun e w' => e = .returned (.tuple #[.agg #[.int .i64 (xa : Int), .int .i64 (xb : Int), .int .i64 (xc : Int)], .bool ok]) ∧ Kept (fun _ => False) wa w') := Lib.hid (by
          have := best_any ns HCC.out.nodes r (.tuple #[(.slice sa r.sels.length sc), (.slice da r.decls.length dc)]) m wa _ k (nodes_firm.kept HV.out (HK2.out.trans HKA.out)) ⟨_, _, rfl, sels_firm.kept hss hka, decls_firm.kept hds hka⟩ HFT.out hk ((HK2.out.trans HKA.out).cell id HM.out)
          rw [HBS.out] at this
          exact this)
        have HDS := Lib.hid (decls_firm.kept hds hka)
        rw [HWA.out]
        clear hcs hss hds hx hmem hnm c0 c1 c2 c3 c4 hba hka
        go_wp2_with fail
        refine HCB.out.mono ?_
        rintro e w3 ⟨rfl, hk3⟩
        go_upto_region 10 with fail
        obtain ⟨wb, HWB⟩ : ∃ x, Hid (w3.alloc (.cells #[.int .i64 (xa : Int), .int .i64 (xb : Int), .int .i64 (xc : Int)] 39 (0, 0)) = x) := ⟨_, rfl⟩
        have hkb : Kept (fun _ => False) wa wb := by rw [← HWB.out]; exact hk3.alloc _
        have HKB := Lib.hid (HKA.out.trans hkb)
        have d0 := hkb.cell id b0
        have d2 := hkb.cell id b2
        have HDB := Lib.hid (decls_firm.kept HDS.out hkb)
        rw [HWB.out]
        clear b0 b1 b2 b3 b4 hk3 hkb
        cases ok with
        | false =>
          go_wp2_with fail
          go_roundw
          case measure => simp [intOf]; omega
          case rel => exact ⟨i + 1, by omega, by go_num, HKB⟩
        | true =>
          cases he : r.media.isEmpty with
          | false =>
            have e1 : (r.media == []) = false := by simpa using he
            have e2 : (r.media != []) = true := by simpa using he
            clear he
            go_wp2_with fail
            go_roundw
            case measure => simp [intOf]; omega
            case rel => exact ⟨i + 1, by omega, by go_num, HKB⟩
          | true =>
            have hme : r.media = [] := by simpa using he
            have e1 : (r.media == []) = true := by simpa using he
            have e2 : (r.media != []) = false := by simpa using he
            obtain ⟨dl, hdl1, hdl2⟩ := declared_strong HD.out HMEM.out (by rw [HBS.out]) hme
            have HTH := Lib.hid hdl2
            have HAA := all_any wb (.slice da r.decls.length dc) r.decls HDB.out (by omega) HVL.out m ((HK2.out.trans HKB.out).cell id HM.out)
            rw [hdl1] at HAA
            replace HAA := Lib.hid HAA
            clear he hme hdl1 hdl2
            go_upto_region 11 with fail
            go_wp2_with fail
            refine HAA.out.mono ?_
            intro e w4 he4
            obtain ⟨xv, rfl, hb4, hd4⟩ := he4
            obtain ⟨xl, xcap, rfl, hxc1, hxc2⟩ := DeclsIn.form hd4
            unfold maxLen at hxc2
            have HD4 : Hid (DeclsAt w4 (.slice xl dl.length xcap) dl) := Lib.hid hd4.1
            have HK4 := Lib.hid (HKB.out.trans (Kept.of_below hb4))
            clear hb4 hd4 d0 d2
            go_wp2_with fail
            go_loopw [67] (fun c wx => ∃ j : Nat, j ≤ dl.length ∧ c = .int .i64 (j : Int) ∧ Hid (Kept (fun _ => False) w4 wx)) (fun c _ => dl.length - (intOf c).toNat)
            case atStart => exact ⟨0, by omega, rfl, Lib.hid (Kept.refl _ _)⟩
            case round =>
              obtain ⟨j, hj, rfl, HKX⟩ := hrel
              obtain ⟨wr1, hwr1⟩ : ∃ x, x = wr := ⟨_, rfl⟩
              subst hwr1
              by_cases hjlt : j < dl.length
              · have hy := List.getElem?_eq_getElem hjlt
                generalize hgy : dl[j] = x at hy
                clear hgy
                obtain ⟨db, doff, rfl, t0, t1, t2⟩ := DeclsAt.at (RowsAt.below HD4.out HKX.out.below) hy
                have HANY : Hid (look.any (thereP x) = true) := Lib.hid (by
                  obtain ⟨y, hy1, hy2, hy3⟩ := HTH.out x (List.mem_of_getElem? hy)
                  rw [List.any_eq_true]
                  refine ⟨y, hy1, ?_⟩
                  unfold thereP
                  rw [hy2]
                  cases hs : x.strong with
                  | false => simp
                  | true => simp [hy3 hs])
                clear hy
                go_upto_region 17 with fail
                obtain ⟨wd, HWD⟩ : ∃ x', Hid (wr1.alloc (.cells #[.string (str x.name), .string (str x.val), .bool x.strong] 46 (0, 0)) = x') := ⟨_, rfl⟩
                have hdd : wd.heap[wr1.heap.size]? = some (.cells #[.string (str x.name), .string (str x.val), .bool x.strong] 46 (0, 0)) := by rw [← HWD.out]; exact newIn wr1 _
                have f0 : wd.cell? ⟨wr1.heap.size, 0, none⟩ = some (.string (str x.name)) := cellIn hdd 0 rfl
                have f2 : wd.cell? ⟨wr1.heap.size, 2, none⟩ = some (.bool x.strong) := cellIn hdd 2 rfl
                have HKD : Hid (Kept (fun _ => False) w4 wd) := Lib.hid (by rw [← HWD.out]; exact HKX.out.alloc _)
                have HF0 := Lib.hid f0
                have HF2 := Lib.hid f2
                rw [HWD.out]
                clear hdd t0 t1 t2 f0 f2
                go_wp2_with fail
                go_loopw [19, 73] (fun t c wy => ∃ l : Nat, l ≤ look.length ∧ c = .int .i64 (l : Int) ∧ t = .bool ((look.take l).any (thereP x)) ∧ Hid (Kept (fun _ => False) wd wy)) (fun _ c _ => look.length - (intOf c).toNat)
                case atStart => exact ⟨0, by omega, rfl, rfl, Lib.hid (Kept.refl _ _)⟩
                case round =>
                  obtain ⟨l, hl, rfl, rfl, HKY⟩ := hrel
                  obtain ⟨wr2, hwr2⟩ : ∃ x, x = wr := ⟨_, rfl⟩
                  subst hwr2
                  by_cases hllt : l < look.length
                  · have hz := List.getElem?_eq_getElem hllt
                    generalize hgz : look[l] = y at hz
                    clear hgz
                    obtain ⟨yb, yoff, rfl, t0, t1, t2⟩ := DeclsAt.at (RowsAt.below HLV.out (HK4.out.trans (HKD.out.trans HKY.out)).below) hz
                    have hnx := Lib.hid (any_take (x := x) hz)
                    clear hz
                    go_upto_region 21 with fail
                    obtain ⟨we, HWE⟩ : ∃ x', Hid (wr2.alloc (.cells #[.string (str y.name), .string (str y.val), .bool y.strong] 47 (0, 0)) = x') := ⟨_, rfl⟩
                    have hee : we.heap[wr2.heap.size]? = some (.cells #[.string (str y.name), .string (str y.val), .bool y.strong] 47 (0, 0)) := by rw [← HWE.out]; exact newIn wr2 _
                    have g0 : we.cell? ⟨wr2.heap.size, 0, none⟩ = some (.string (str y.name)) := cellIn hee 0 rfl
                    have g2 : we.cell? ⟨wr2.heap.size, 2, none⟩ = some (.bool y.strong) := cellIn hee 2 rfl
                    have HKE : Hid (Kept (fun _ => False) wd we) := Lib.hid (by rw [← HWE.out]; exact HKY.out.alloc _)
                    have f0 := HKE.out.cell id HF0.out
                    have f2 := HKE.out.cell id HF2.out
                    rw [HWE.out]
                    clear hee t0 t1 t2
                    obtain ⟨acc, HACC⟩ : ∃ a, Hid ((look.take l).any (thereP x) = a) := ⟨_, rfl⟩
                    rw [HACC.out] at hnx ⊢
                    rw [show thereP x y = (y.name == x.name && (y.strong || !x.strong)) from rfl] at hnx
                    obtain ⟨xs, HXS⟩ : ∃ a, Hid (x.strong = a) := ⟨_, rfl⟩
                    obtain ⟨ys, HYS⟩ : ∃ a, Hid (y.strong = a) := ⟨_, rfl⟩
                    rw [HXS.out] at f2 hnx
                    rw [HYS.out] at g2 hnx
                    have fin : ∀ tt : Bool, (acc || (y.name == x.name && (ys || !xs))) = tt → Hid ((look.take (l + 1)).any (thereP x) = tt) := fun tt h => Lib.hid (by rw [← h]; exact hnx.out)
                    cases acc with
                    | true =>
                      have HT := fin true rfl
                      clear fin hnx
                      go_wp2_with fail
                      go_roundw
                      case measure => simp [intOf]; omega
                      case rel => exact ⟨l + 1, by omega, by go_num, by rw [HT.out], HKE⟩
                    | false =>
                      cases hnm : (y.name == x.name) with
                      | false =>
                        have HT := fin false (by rw [hnm]; rfl)
                        clear fin hnx
                        go_wp2_with fail
                        go_roundw
                        case measure => simp [intOf]; omega
                        case rel => exact ⟨l + 1, by omega, by go_num, by rw [HT.out], HKE⟩
                      | true =>
                        cases ys with
                        | true =>
                          have HT := fin true (by rw [hnm]; rfl)
                          clear fin hnx
                          go_wp2_with fail
                          go_roundw
                          case measure => simp [intOf]; omega
                          case rel => exact ⟨l + 1, by omega, by go_num, by rw [HT.out], HKE⟩
                        | false =>
                          cases xs with
                          | true =>
                            have HT := fin false (by rw [hnm]; rfl)
                            clear fin hnx
                            go_wp2_with fail
                            go_roundw
                            case measure => simp [intOf]; omega
                            case rel => exact ⟨l + 1, by omega, by go_num, by rw [HT.out], HKE⟩
                          | false =>
                            have HT := fin true (by rw [hnm]; rfl)
                            clear fin hnx
                            go_wp2_with fail
                            go_roundw
                            case measure => simp [intOf]; omega
                            case rel => exact ⟨l + 1, by omega, by go_num, by rw [HT.out], HKE⟩
                  · obtain rfl : l = look.length := by omega
                    rw [List.take_length, HANY.out]
                    go_wp2_with fail
                    go_roundw
                    case measure => simp [intOf]; omega
                    case rel => exact ⟨j + 1, by omega, by go_num, Lib.hid (HKD.out.trans HKY.out)⟩
              · obtain rfl : j = dl.length := by omega
                go_wp2_with fail
                go_roundw
                case measure => simp [intOf]; omega
                case rel => exact ⟨i + 1, by omega, by go_num, Lib.hid (HK4.out.trans HKX.out)⟩
      · obtain rfl : i = rs.length := by omega
        go_wp2_with fail
        go_ret
        exact ⟨rfl, HK2.out.trans HK.out⟩
end Go.Proofs.YtplbdlgmjehckabDoor
