/-
  Lemmas for the claims of this seat: the program's functions walked, and plain laws. In this order: R3Decl.
-/
import Derived.Test.YtplbdlgmjehckabGreatDoorPk13
import Derived.Test.YtplbdlgmjehckabGreatDoorPk15
import Derived.Test.YtplbdlgmjehckabGreatDoorPk9
import Derived.Test.YtplbdlgmjehckabGreatDoorPk16
import Derived.Deep.DeepCutAuto
import Derived.Deep.CutBlock
namespace Go.Proofs.YtplbdlgmjehckabGreatDoor
open Go.RowKit
set_option linter.unusedVariables false
set_option linter.unusedSimpArgs false
theorem info_rclaim : (Tryz.prog.info? 106).map (fun i => (i.zero, i.size, i.bytes)) = some (some (.agg #[.string ⟨#[]⟩, .string ⟨#[]⟩, .bool false, .bool false, .int .i64 0, .int .i64 0, .int .i64 0]), 7, 72) := by kernel_rfl
structure RCLp (w wr : World) (v : Value) (ns : List PNode) (k : Int) (n : PNode) (rs : List PRule) (media : List B) (r : Ans (List PClaim)) (i : Nat) (cs : List PClaim) : Prop where
  own : wr.ownsRow w.heap.size 106 7 v cs.length (cs.map claimCells).flatten
  kept : Kept (fun _ => False) w wr
  rest : contR ns k n rs media cs i = r
  low : ∀ c ∈ cs, c.w.low 1048576
  few : cs.length ≤ 4 * nDecls (rs.take i)
structure RILp (w : World) (B : Nat) (w4 wx : World) (v : Value) (cs : List PClaim) : Prop where
  own : wx.ownsRow w.heap.size 106 7 v cs.length (cs.map claimCells).flatten
  kept : Kept (fun q => w.heap.size ≤ q ∧ q < B) w4 wx
  side : ∀ q, v.ownBlock = some q → q < B ∨ w4.heap.size ≤ q
theorem RILp.alloc {w : World} {B : Nat} {w4 wx : World} {v : Value} {cs : List PClaim} (h : RILp w B w4 wx v cs) (o : Obj) : RILp w B w4 (wx.alloc o) v cs := ⟨h.own.alloc o, h.kept.alloc o, h.side⟩
theorem RILp.push {w : World} {B : Nat} {w4 wd w15 : World} {v v' : Value} {cs cs' : List PClaim} {o : Obj} {gg : Nat} (h : RILp w B w4 wd v cs) (h4 : w.heap.size ≤ w4.heap.size) (hB : w.heap.size ≤ B) (hg : (wd.alloc o).grownBy w15 v.ownBlock) (hat : v.ownBlock = some gg ∨ gg = wd.heap.size + 1)
    (ho : w15.ownsRow w.heap.size 106 7 v' cs'.length (cs'.map claimCells).flatten) (hv : v'.ownBlock = some gg) : RILp w B w4 w15 v' cs' := by
  refine ⟨ho, (h.kept.alloc o).grown hg (fun q hq => ?_), fun q hq => ?_⟩
  · have h1 := (h.own.lt q hq).1
    rcases h.side q hq with h2 | h2
    · exact .inl ⟨h1, h2⟩
    · exact .inr h2
  · rw [hv] at hq
    cases hq
    rcases hat with h1 | h1
    · exact h.side _ h1
    · right; have := h.kept.size; omega
theorem cDeclared_in {l : List PNode} {k : Nat} {n : PNode} {rules : List PRule} {media : List B} (hn : l[k]? = some n) : cDeclared l (k : Int) rules media = (cClaims l (k : Int) n rules media).then fun cs => .ok (cLook cs) := by
  have hk := (List.getElem?_eq_some_iff.1 hn).1
  unfold cDeclared
  rw [if_pos (by unfold inR; simp; omega), Int.toNat_natCast, hn]
def RClEnd (w w' : World) (v : Value) (cs : List PClaim) : Prop := Kept (fun _ => False) w w' ∧ w'.ownsRow w.heap.size 106 7 v cs.length (cs.map claimCells).flatten ∧ (∀ c ∈ cs, c.w.low 1048576) ∧ cs.length ≤ 1099600000000
def RDcEnds (w : World) (r : Ans (List PDecl)) (e : Ending) (w' : World) : Prop := DcEnds w r e w'
set_option maxRecDepth 100000 in
set_option maxHeartbeats 12800000 in
theorem rdeclared_any (ns : List PNode) (rs : List PRule) (hc : CaCtx ns rs) (media : List B) (k : Int) (hk : -9223372036854775808 ≤ k ∧ k ≤ 9223372036854775807) (m : Int) (w : World) (v rv mv : Value) (hv : NodesAt w v ns) (hr : RulesAt w rv rs) (hmv : StrsAt w mv media) (hm : w.cell? ⟨0, 0, none⟩ = some (.int .i64 m)) :
    Calls Tryz.prog 12 #[v, .int .i64 k, rv, mv] w (DcEnds w (cDeclared ns k rs media)) := by
  obtain ⟨na, ncap, rfl, hnc1, hnc2⟩ := hv.form
  obtain ⟨ra, rcap, rfl, hrc1, hrc2⟩ := NestAt.form hr
  obtain ⟨ma, mcap, rfl, hmc1, hmc2⟩ := StrsAt.form hmv
  unfold maxLen at hnc2 hrc2 hmc2
  obtain ⟨D, HD⟩ : ∃ D, Hid (cDeclared ns k rs media = D) := ⟨_, Lib.hid rfl⟩
  rw [HD.out]
  by_cases hin : 0 ≤ k ∧ k < ns.length
  · obtain ⟨kn, rfl⟩ : ∃ n : Nat, k = n := ⟨k.toNat, by omega⟩
    have hkl : kn < ns.length := by omega
    have hn := List.getElem?_eq_getElem hkl
    generalize hgn : ns[kn] = n at hn
    clear hgn
    obtain ⟨R, HR⟩ : ∃ R, Hid (cClaims ns (kn : Int) n rs media = R) := ⟨_, Lib.hid rfl⟩
    have HDR : Hid ((R.then fun cs => .ok (cLook cs)) = D) := Lib.hid (by rw [← HD.out, ← HR.out]; exact (cDeclared_in hn).symm)
    have h0 : 0 < w.heap.size := World.block_lt_of_cell? w _ hm
    have hfn := hc.nodes.few
    have hfr := hc.few
    have HC := Lib.hid hc
    have HN := Lib.hid hn
    have HV := Lib.hid hv
    have HRS := Lib.hid hr
    have HMV := Lib.hid hmv
    have HM := Lib.hid hm
    obtain ⟨i0, hi0, hz0, hz1, hz2⟩ := info_parts info_rclaim
    obtain ⟨j0, hj0, hy0, hy1, hy2⟩ := info_parts info_decl
    obtain ⟨g0, hg0, hx0, hx1, hx2⟩ := info_parts info_weight
    clear hc hn hv hr hmv hm hk
    have hL0 : Hid (RCLp w w (.slice none 0 0) ns (kn : Int) n rs media R 0 []) := Lib.hid ⟨World.ownsRow_nil _ _ _ _, Kept.refl _ _, by rw [contR_start]; exact HR.out, by simp, by simp⟩
    go_enter Tryz.func12, Tryz.ntmps12
    have hkn : ¬ (kn : Int) < 0 := by omega
    have hkn2 : ¬ (ns.length : Int) ≤ (kn : Int) := by omega
    go_upto_block 0 with fail
    go_cut [10] (fun v wx => ∃ cs, Hid (RCLp w wx v ns (kn : Int) n rs media R rs.length cs))
    case first =>
      clear hkn hkn2
      go_wp2_with fail
      go_loopw [10, 45] (fun v c wr => ∃ (i : Nat) (cs : List PClaim), i ≤ rs.length ∧ c = .int .i64 (i : Int) ∧ Hid (RCLp w wr v ns (kn : Int) n rs media R i cs)) (fun _ c _ => rs.length - (intOf c).toNat)
      case atStart => exact ⟨0, [], by omega, rfl, hL0⟩
      case round =>
        obtain ⟨i, cs, hi, rfl, HL⟩ := hrel
        obtain ⟨wr0, hwr0⟩ : ∃ x, x = wr := ⟨_, rfl⟩
        subst hwr0
        obtain ⟨vo, vc, hvf⟩ := owns_form HL.out.own
        subst hvf
        by_cases hlt : i < rs.length
        · have hx := List.getElem?_eq_getElem hlt
          generalize hgx : rs[i] = r at hx
          clear hgx
          obtain ⟨b, o, u, rfl, hcs, hru⟩ := NestAt.at (rules_firm.kept HRS.out HL.out.kept) hx
          obtain ⟨sv, dv, rfl, hss, hds⟩ := hru
          obtain ⟨sa, sc, rfl, hsc1, hsc2⟩ := NestAt.form hss
          obtain ⟨da, dc, rfl, hdc1, hdc2⟩ := DeclsAt.form hds
          unfold maxLen at hsc2 hdc2
          have c0 : wr0.cell? ⟨b, o + i * 5, none⟩ = some (.string (str r.media)) := hcs 0 _ rfl
          have c1 : wr0.cell? ⟨b, o + i * 5 + 1, none⟩ = some (.slice sa r.sels.length sc) := hcs 1 _ rfl
          have c2 : wr0.cell? ⟨b, o + i * 5 + 2, none⟩ = some (.slice da r.decls.length dc) := hcs 2 _ rfl
          have c3 : wr0.cell? ⟨b, o + i * 5 + 3, none⟩ = some (.int .i64 r.lo) := hcs 3 _ rfl
          have c4 : wr0.cell? ⟨b, o + i * 5 + 4, none⟩ = some (.int .i64 r.hi) := hcs 4 _ rfl
          obtain ⟨wz, HWZ⟩ : ∃ x, Hid (wr0.alloc (.cells #[.string (str r.media), .slice sa r.sels.length sc, .slice da r.decls.length dc, .int .i64 r.lo, .int .i64 r.hi] 59 (0, 0)) = x) := ⟨_, Lib.hid rfl⟩
          obtain ⟨rk, HRK⟩ : ∃ x, Hid (wr0.heap.size = x) := ⟨_, Lib.hid rfl⟩
          have HZB : Hid (wz.heap[rk]? = some (.cells #[.string (str r.media), .slice sa r.sels.length sc, .slice da r.decls.length dc, .int .i64 r.lo, .int .i64 r.hi] 59 (0, 0))) := Lib.hid (by rw [← HWZ.out, ← HRK.out]; exact newIn wr0 _)
          have HKZ : Hid (Kept (fun _ => False) wr0 wz) := Lib.hid (by rw [← HWZ.out]; exact (Kept.refl _ wr0).alloc _)
          have hmem := List.mem_of_getElem? hx
          have hft := HC.out.tests r hmem
          have HLW : Hid ((mBest ns (kn : Int) r.sels).1.low 1048576) := Lib.hid (best_low hft)
          have HVL := Lib.hid (HC.out.vals r hmem)
          have hnm := nDecls_mem hx
          have hnl := HC.out.decls
          have HNT := Lib.hid (nDecls_take rs i hx)
          have hfew := HL.out.few
          have hcb : cs.length ≤ 1099511627776 := by omega
          have HCF := Lib.hid hfew
          have hdl : r.decls.length ≤ 1048576 := HC.out.each r hmem
          have HX := Lib.hid hx
          obtain ⟨⟨⟨xa, xb, xc⟩, ok⟩, HBS⟩ : ∃ x, Hid (mBest ns (kn : Int) r.sels = x) := ⟨_, Lib.hid rfl⟩
          rw [HBS.out] at HLW
          have HCB : Hid (Calls Tryz.prog 34 #[.slice na ns.length ncap, .int .i64 (kn : Int), .agg #[.string (str r.media), .slice sa r.sels.length sc, .slice da r.decls.length dc, .int .i64 r.lo, .int .i64 r.hi]] wz fun e w' => e = .returned (.tuple #[.agg #[.int .i64 (xa : Int), .int .i64 (xb : Int), .int .i64 (xc : Int)], .bool ok]) ∧ Kept (fun _ => False) wz w') := Lib.hid (by
            have := rbest_any ns HC.out.nodes r (.tuple #[.slice sa r.sels.length sc, .slice da r.decls.length dc]) m wz _ (kn : Int) (nodes_firm.kept HV.out (HL.out.kept.trans HKZ.out)) ⟨_, _, rfl, sels_firm.kept hss HKZ.out, decls_firm.kept hds HKZ.out⟩ hft (by omega) ((HL.out.kept.trans HKZ.out).cell id HM.out)
            rw [HBS.out] at this
            exact this)
          have HDS := Lib.hid hds
          obtain ⟨cb, HCN⟩ : ∃ x, Hid (counts r media = x) := ⟨_, Lib.hid rfl⟩
          have HCI : Hid (r.media.isEmpty = false → Calls Tryz.prog 33 #[.string (str r.media), .slice ma media.length mcap] wz fun e w' => e = .returned (.bool cb) ∧ w' = wz) := Lib.hid (fun he => by
            have := rin_any r.media media wz _ (strs_firm.kept HMV.out (HL.out.kept.trans HKZ.out))
            have hcc := HCN.out
            unfold counts at hcc
            rw [he, Bool.false_or] at hcc
            rw [hcc] at this
            exact this)
          clear hss hds hx hmem hft hfew hnm hcs
          go_upto_region 7 with fail
          rw [HWZ.out, HRK.out]
          clear c0 c1 c2 c3 c4
          have a0 := cellIn HZB.out 0 rfl
          have a1 := cellIn HZB.out 1 rfl
          have a2 := cellIn HZB.out 2 rfl
          have a3 := cellIn HZB.out 3 rfl
          have a4 := cellIn HZB.out 4 rfl
          go_cut [58] (fun c wx => wx = wz ∧ c = .bool (!cb))
          case first =>
            clear a1 a2 a3 a4
            cases hme : r.media.isEmpty with
            | true =>
              have hcc : cb = true := by rw [← HCN.out]; unfold counts; rw [hme]; rfl
              subst hcc
              go_wp2_with fail
              go_meet
              case rel => exact ⟨rfl, rfl⟩
            | false =>
              have HIC := Lib.hid (HCI.out hme)
              go_wp2_with fail
              refine HIC.out.mono ?_
              rintro e w2 ⟨rfl, rfl⟩
              go_wp2_with fail
              go_meet
              case rel => exact ⟨rfl, rfl⟩
          case rest =>
            obtain ⟨rfl, rfl⟩ := hcut
            cases cb with
            | false =>
              have hsk : Hid (contR ns (kn : Int) n rs media cs (i + 1) = R) := Lib.hid (by rw [← contR_skip HX.out (by rw [HCN.out, Bool.and_false])]; exact HL.out.rest)
              go_wp2_with fail
              go_roundw
              case measure => simp [intOf]; omega
              case rel => exact ⟨i + 1, cs, by omega, by go_num, Lib.hid ⟨owns_kept HL.out.own HKZ.out (fun _ _ => id), HL.out.kept.trans HKZ.out, hsk.out, HL.out.low, by have := HCF.out; have := HNT.out; omega⟩⟩
            | true =>
              go_wp2_with fail
              refine HCB.out.mono ?_
              rintro e w2 ⟨rfl, hk2⟩
              go_upto_region 9 with fail
              obtain ⟨wa, HWA⟩ : ∃ x, Hid (w2.alloc (.cells #[.int .i64 (xa : Int), .int .i64 (xb : Int), .int .i64 (xc : Int)] 91 (0, 0)) = x) := ⟨_, Lib.hid rfl⟩
              have hya : WtAt wa w2.heap.size ⟨xa, xb, xc⟩ := by rw [← HWA.out]; exact newIn w2 _
              have hka : Kept (fun _ => False) wr0 wa := by rw [← HWA.out]; exact (HKZ.out.trans hk2).alloc _
              have HYA := Lib.hid hya
              have HKA := Lib.hid hka
              rw [HWA.out]
              have b2 : wa.cell? ⟨rk, 2, none⟩ = some (.slice da r.decls.length dc) := by rw [← HWA.out]; exact cell_alloc (hk2.cell id a2) _
              have hkwz := (HKZ.out.trans hk2).size
              clear a0 a1 a2 a3 a4 hk2 hka hya
              cases ok with
              | false =>
                have hsk : Hid (contR ns (kn : Int) n rs media cs (i + 1) = R) := Lib.hid (by rw [← contR_skip HX.out (by rw [HBS.out]; rfl)]; exact HL.out.rest)
                go_wp2_with fail
                go_roundw
                case measure => simp [intOf]; omega
                case rel => exact ⟨i + 1, cs, by omega, by go_num, Lib.hid ⟨owns_kept HL.out.own HKA.out (fun _ _ => id), HL.out.kept.trans HKA.out, hsk.out, HL.out.low, by have := HCF.out; have := HNT.out; omega⟩⟩
              | true =>
                obtain ⟨dl, HDL⟩ : ∃ x, Hid (pAll r.decls = x) := ⟨_, Lib.hid rfl⟩
                have HAL := rall_any wa _ r.decls (decls_firm.kept HDS.out HKA.out) (by omega) HVL.out
                rw [HDL.out] at HAL
                replace HAL := Lib.hid HAL
                go_wp2_with fail
                refine HAL.out.mono ?_
                intro e w4 he4
                cases dl with
                | none =>
                  obtain ⟨rfl, hb4⟩ := he4
                  have hrr : Hid (R = .bad ⟨5, 0⟩) := Lib.hid (by rw [← HL.out.rest]; exact contR_bad HX.out (by rw [HBS.out, HCN.out]; rfl) HDL.out)
                  go_wp2_with fail
                  refine bodyPost_ret (v := .tuple #[.slice none 0 0, .int .i64 5]) (by simp [results, Tryz.results12, go_sem]) rfl ?_
                  rw [← HDR.out, hrr.out]
                  exact ⟨rfl, (HL.out.kept.trans HKA.out).trans (Kept.of_below hb4), by simp⟩
                | some d =>
                  obtain ⟨lv, rfl, hb4, hd4⟩ := he4
                  obtain ⟨la, lc, rfl, hlc1, hlc2⟩ := DeclsIn.form hd4
                  unfold maxLen at hlc2
                  have hdlen := pAll_len HDL.out
                  have hsk : Hid (contR ns (kn : Int) n rs media (cs ++ d.map fun x => (⟨x, false, ⟨xa, xb, xc⟩⟩ : PClaim)) (i + 1) = R) := Lib.hid (by
                    have := contR_more HX.out (by rw [HBS.out, HCN.out]; rfl) HDL.out (cs := cs) (n := n)
                    rw [HBS.out] at this
                    rw [← this]; exact HL.out.rest)
                  have HD4 : Hid (DeclsAt w4 (.slice la d.length lc) d) := Lib.hid hd4.1
                  have HK4 := Lib.hid (HKA.out.trans (Kept.of_below hb4))
                  have HY4 : Hid (WtAt w4 w2.heap.size ⟨xa, xb, xc⟩) := Lib.hid ((Kept.of_below (S := fun _ => False) hb4).heap id HYA.out)
                  have HOW4 := Lib.hid (owns_kept HL.out.own HK4.out (fun _ _ => id))
                  have hsz4 : w.heap.size ≤ w4.heap.size := (HL.out.kept.trans HK4.out).size
                  have hdo : ∀ q, (Value.slice la d.length lc).ownBlock = some q → wa.heap.size ≤ q ∧ q < w4.heap.size := fun q hq => ⟨Nat.le_of_not_lt (hd4.2 q hq).1, (hd4.2 q hq).2⟩
                  have hw23 : wr0.heap.size ≤ w2.heap.size := hkwz
                  have hwa3 : w2.heap.size < wa.heap.size := by have := ltIn HYA.out; exact this
                  clear hb4 hd4
                  go_wp2_with fail
                  go_loopw [10, 79] (fun v c wx => ∃ j : Nat, j ≤ d.length ∧ c = .int .i64 (j : Int) ∧ Hid (RILp w wr0.heap.size w4 wx v (cs ++ (d.take j).map fun x => (⟨x, false, ⟨xa, xb, xc⟩⟩ : PClaim)))) (fun _ c _ => d.length - (intOf c).toNat)
                  case atStart => exact ⟨0, by omega, rfl, Lib.hid ⟨by simpa using HOW4.out, Kept.refl _ _, fun q hq => .inl (by have := (HL.out.own.lt q hq).2; omega)⟩⟩
                  case round =>
                    obtain ⟨j, hj, rfl, HI⟩ := hrel
                    obtain ⟨wr1, hwr1⟩ : ∃ x, x = wr := ⟨_, rfl⟩
                    subst hwr1
                    obtain ⟨ao, ac, hvf⟩ := owns_form HI.out.own
                    subst hvf
                    have hwrs : w.heap.size ≤ wr0.heap.size := HL.out.kept.size
                    by_cases hjlt : j < d.length
                    · have hy := List.getElem?_eq_getElem hjlt
                      generalize hgy : d[j] = x at hy
                      clear hgy
                      have hlen : (cs ++ (d.take j).map fun x => (⟨x, false, ⟨xa, xb, xc⟩⟩ : PClaim)).length = cs.length + j := by simp; omega
                      have hnx : Hid ((cs ++ (d.take (j + 1)).map fun x => (⟨x, false, ⟨xa, xb, xc⟩⟩ : PClaim)) = (cs ++ (d.take j).map fun x => (⟨x, false, ⟨xa, xb, xc⟩⟩ : PClaim)) ++ [⟨x, false, ⟨xa, xb, xc⟩⟩]) := Lib.hid (by rw [List.take_add_one, hy, Option.toList_some]; simp)
                      obtain ⟨db, doff, rfl, t0, t1, t2⟩ := DeclsAt.at (RowsAt.kept HD4.out HI.out.kept (fun q hq => by have := hdo q hq; omega)) hy
                      have hyw : WtAt wr1 w2.heap.size ⟨xa, xb, xc⟩ := HI.out.kept.heap (by omega) HY4.out
                      generalize (cs ++ (d.take j).map fun x => (⟨x, false, ⟨xa, xb, xc⟩⟩ : PClaim)) = es at *
                      go_upto_region 16 with fail
                      obtain ⟨wd, HWD⟩ : ∃ x', Hid (wr1.alloc (.cells #[.string (str x.name), .string (str x.val), .bool x.strong] 89 (0, 0)) = x') := ⟨_, rfl⟩
                      have hdd : wd.heap[wr1.heap.size]? = some (.cells #[.string (str x.name), .string (str x.val), .bool x.strong] 89 (0, 0)) := by rw [← HWD.out]; exact newIn wr1 _
                      have HID : Hid (RILp w wr0.heap.size w4 wd (.slice ao es.length ac) es) := Lib.hid (by rw [← HWD.out]; exact HI.out.alloc _)
                      have hyd : WtAt wd w2.heap.size ⟨xa, xb, xc⟩ := by rw [← HWD.out]; exact oldIn hyw _
                      have d0 : wd.cell? ⟨wr1.heap.size, 0, none⟩ = some (.string (str x.name)) := cellIn hdd 0 rfl
                      have d1 : wd.cell? ⟨wr1.heap.size, 1, none⟩ = some (.string (str x.val)) := cellIn hdd 1 rfl
                      have d2 : wd.cell? ⟨wr1.heap.size, 2, none⟩ = some (.bool x.strong) := cellIn hdd 2 rfl
                      obtain ⟨y1, y2, y3⟩ := hyd.ints
                      simp only at y1 y2 y3
                      have hsd : w.heap.size ≤ wd.heap.size := by have := ltIn hdd; have := HI.out.kept.size; omega
                      have hel : es.length ≤ 1099511627776 + 4194304 := by omega
                      rw [HWD.out]
                      clear hdd hyd hyw t0 t1 t2 hy
                      go_wp2_with (at_builtin; refine wpList_append_lies _ rfl _ _ _ rfl w.heap.size 106 i0 _ 7 72 Tryz.underlying99 hi0 hz0 hz1 hz2 rfl (by omega) _ es.length _ (by rfl) (HID.out.own.alloc _) ⟨wd.heap.size, 0, none⟩ 1 1 (claimCells ⟨x, false, ⟨xa, xb, xc⟩⟩) (by rfl) (by rfl) (World.news_of_block (cs := (claimCells ⟨x, false, ⟨xa, xb, xc⟩⟩).toArray) (t := 106) (fr := (0, 0)) (heap_alloc_new wd _)) (claim_one _) (by omega) (by unfold maxLen; omega) (by omega) (by simp; omega) (wd.heap.size + 1) (by simp) ?_; intro gg cap w15 hown15 hgrow15 hat15 hlt15)
                      have hpush := HID.out.push (v' := .slice (some ⟨gg, 0, none⟩) (es.length + 1) cap) (cs' := es ++ [⟨x, false, ⟨xa, xb, xc⟩⟩]) hsz4 hwrs hgrow15 hat15 (by rw [← claims_push, List.length_append]; exact hown15) rfl
                      have HPU := Lib.hid hpush
                      clear hpush hown15 hgrow15 hat15 d0 d1 d2 y1 y2 y3
                      go_wp2_with fail
                      go_roundw
                      case measure => simp [intOf]; omega
                      case rel => exact ⟨j + 1, by omega, by go_num, Lib.hid (by rw [hnx.out, ← hlen]; exact HPU.out)⟩
                    · obtain rfl : j = d.length := by omega
                      have hfin : Hid (RCLp w wr1 (.slice ao (cs ++ (d.take d.length).map fun x => (⟨x, false, ⟨xa, xb, xc⟩⟩ : PClaim)).length ac) ns (kn : Int) n rs media R (i + 1) (cs ++ d.map fun x => (⟨x, false, ⟨xa, xb, xc⟩⟩ : PClaim))) := Lib.hid (by
                        have h1 := HI.out
                        rw [List.take_length] at h1 ⊢
                        refine ⟨h1.own, (HL.out.kept.trans HK4.out).trans' h1.kept (fun q hq hx => by omega), hsk.out, fun c hc => ?_, ?_⟩
                        · rcases List.mem_append.1 hc with hc | hc
                          · exact HL.out.low c hc
                          · obtain ⟨y, _, rfl⟩ := List.mem_map.1 hc
                            exact HLW.out
                        · have h2 := HCF.out
                          have h3 := HNT.out
                          rw [List.length_append, List.length_map, h3]
                          omega)
                      go_wp2_with fail
                      go_roundw
                      case measure => simp [intOf]; omega
                      case rel => exact ⟨i + 1, _, by omega, by go_num, hfin⟩
        · obtain rfl : i = rs.length := by omega
          go_wp2_with fail
          go_meet
          case rel => exact ⟨cs, HL⟩
    case rest =>
      clear hL0
      obtain ⟨cs, HL⟩ := hcut
      obtain ⟨wq, hwq⟩ : ∃ x, x = wc := ⟨_, rfl⟩
      subst hwq
      obtain ⟨vo, vc, hvf⟩ := owns_form HL.out.own
      subst hvf
      have HR2 : Hid ((ownDecls n).then (fun b => Ans.ok (cs ++ ownClaims b)) = R) := Lib.hid (by rw [← contR_end (ns := ns) (k := (kn : Int)) (rs := rs) (media := media)]; exact HL.out.rest)
      obtain ⟨nb, noff, av, rfl, g0, g1, g2, g3, g4, g5, hav⟩ := (nodes_firm.kept HV.out HL.out.kept).at HN.out
      obtain ⟨aa, ac0, rfl, hac1, hac2⟩ := hav.form
      unfold maxLen at hac2
      have HGE := Lib.hid (rget_any wq _ n styleName hav)
      obtain ⟨⟨gv, gb⟩, HG⟩ : ∃ g, Hid (pGet n.attrs styleName = g) := ⟨_, Lib.hid rfl⟩
      rw [HG.out] at HGE
      have hgl : gv.length ≤ 1048576 := by have := get_short HC.out.nodes.short (List.mem_of_getElem? HN.out) styleName; rw [HG.out] at this; exact this
      have hcb : cs.length ≤ 1099511627776 := by have := HL.out.few; rw [List.take_length] at this; have := HC.out.decls; omega
      clear hav
      go_wp2_with fail
      refine HGE.out.mono ?_
      rintro e w2 ⟨rfl, hk2⟩
      have HK2 : Hid (Kept (fun _ => False) wq w2) := Lib.hid hk2
      have HSD := rdeclsOf_any gv w2 (by omega)
      obtain ⟨sd, HSDR⟩ : ∃ x, Hid (sDeclsOf gv = x) := ⟨_, Lib.hid rfl⟩
      rw [HSDR.out] at HSD
      replace HSD := Lib.hid HSD
      clear g0 g1 g2 g3 g4 g5 hk2
      go_wp2_with fail
      refine HSD.out.mono ?_
      intro e w3 he3
      cases sd with
      | bad f =>
        obtain ⟨rfl, hb3⟩ := he3
        have hne := (sdeclsOf_bad HSDR.out).1
        have hrr : Hid (R = .bad ⟨f.err, 0⟩) := Lib.hid (by rw [← HR2.out]; unfold ownDecls; rw [HG.out, HSDR.out]; rfl)
        have hneI : ((f.err : Int) != 0) = true := by simp; omega
        go_upto_region 21 with fail
        obtain ⟨wf, HWF⟩ : ∃ x, Hid (w3.alloc (.cells #[.int .i64 (f.err : Int), .int .i64 (f.pos : Int)] 29 (0, 0)) = x) := ⟨_, Lib.hid rfl⟩
        have hf0 : wf.cell? ⟨w3.heap.size, 0, none⟩ = some (.int .i64 (f.err : Int)) := by rw [← HWF.out]; exact cellIn (newIn w3 _) 0 rfl
        have HKF : Hid (Kept (fun _ => False) w wf) := Lib.hid (by rw [← HWF.out]; exact ((HL.out.kept.trans HK2.out).trans (Kept.of_below hb3)).alloc _)
        rw [HWF.out]
        clear hb3
        go_wp2_with fail
        go_quiet (fail)
        go_wp2_with fail
        refine bodyPost_ret (v := .tuple #[.slice none 0 0, .int .i64 (f.err : Int)]) (by simp [results, Tryz.results12, go_sem]) rfl ?_
        rw [← HDR.out, hrr.out]
        exact ⟨rfl, HKF.out.drewN _, hne⟩
      | ok ds =>
        obtain ⟨lv, rfl, hb3, hd3⟩ := he3
        obtain ⟨la, lc, rfl, hlc1, hlc2⟩ := DeclsIn.form hd3
        unfold maxLen at hlc2
        obtain ⟨hdok, hd20⟩ := declsOf_ok_of HSDR.out
        go_upto_region 21 with fail
        obtain ⟨wf, HWF⟩ : ∃ x, Hid (w3.alloc (.cells #[.int .i64 0, .int .i64 0] 29 (0, 0)) = x) := ⟨_, rfl⟩
        have hf0 : wf.cell? ⟨w3.heap.size, 0, none⟩ = some (.int .i64 0) := by rw [← HWF.out]; exact cellIn (newIn w3 _) 0 rfl
        have hkf : Kept (fun _ => False) wq wf := by rw [← HWF.out]; exact (HK2.out.trans (Kept.of_below hb3)).alloc _
        have hdf : DeclsAt wf (.slice la ds.length lc) ds := by rw [← HWF.out]; exact RowsAt.alloc hd3.1 _
        have HKF := Lib.hid hkf
        have HVL : Hid (∀ d ∈ ds, d.val.length ≤ 1048576) := Lib.hid (fun d hd => by obtain ⟨ws, _, _, _, hl⟩ := (hdok d hd).2; omega)
        rw [HWF.out]
        obtain ⟨dl, HDL⟩ : ∃ x, Hid (pAll ds = x) := ⟨_, rfl⟩
        have HAL := rall_any wf _ ds hdf (by omega) HVL.out
        rw [HDL.out] at HAL
        replace HAL := Lib.hid HAL
        have hsf : wq.heap.size ≤ wf.heap.size := hkf.size
        clear hb3 hd3 hkf hdf hdok
        go_wp2_with fail
        refine HAL.out.mono ?_
        intro e w4 he4
        cases dl with
        | none =>
          obtain ⟨rfl, hb4⟩ := he4
          have hrr : Hid (R = .bad ⟨5, 0⟩) := Lib.hid (by rw [← HR2.out]; unfold ownDecls; rw [HG.out, HSDR.out]; simp only; rw [HDL.out]; rfl)
          go_wp2_with fail
          refine bodyPost_ret (v := .tuple #[.slice none 0 0, .int .i64 5]) (by simp [results, Tryz.results12, go_sem]) rfl ?_
          rw [← HDR.out, hrr.out]
          exact ⟨rfl, (HL.out.kept.trans HKF.out).trans (Kept.of_below hb4), by simp⟩
        | some d =>
          obtain ⟨lv, rfl, hb4, hd4⟩ := he4
          obtain ⟨la2, lc2, rfl, hlc3, hlc4⟩ := DeclsIn.form hd4
          unfold maxLen at hlc4
          have hdlen := pAll_len HDL.out
          have hrr : Hid (R = .ok (cs ++ ownClaims d)) := Lib.hid (by rw [← HR2.out]; unfold ownDecls; rw [HG.out, HSDR.out]; simp only; rw [HDL.out]; rfl)
          have HD4 : Hid (DeclsAt w4 (.slice la2 d.length lc2) d) := Lib.hid hd4.1
          have HK4 := Lib.hid (HKF.out.trans (Kept.of_below hb4))
          have HOW4 := Lib.hid (owns_kept HL.out.own HK4.out (fun _ _ => id))
          have hsz4 : w.heap.size ≤ w4.heap.size := (HL.out.kept.trans HK4.out).size
          have hdo : ∀ q, (Value.slice la2 d.length lc2).ownBlock = some q → wf.heap.size ≤ q ∧ q < w4.heap.size := fun q hq => ⟨Nat.le_of_not_lt (hd4.2 q hq).1, (hd4.2 q hq).2⟩
          have hwrs : w.heap.size ≤ wq.heap.size := HL.out.kept.size
          clear hb4 hd4
          go_upto_block 4 with fail
          go_cut [10] (fun v wx => Hid (RClEnd w wx v (cs ++ ownClaims d)))
          case first =>
            go_wp2_with fail
            go_loopw [10, 119] (fun v c wx => ∃ j : Nat, j ≤ d.length ∧ c = .int .i64 (j : Int) ∧ Hid (RILp w wq.heap.size w4 wx v (cs ++ (d.take j).map fun x => (⟨x, true, ⟨0, 0, 0⟩⟩ : PClaim)))) (fun _ c _ => d.length - (intOf c).toNat)
            case atStart => exact ⟨0, by omega, rfl, Lib.hid ⟨by simpa using HOW4.out, Kept.refl _ _, fun q hq => .inl (by have := (HL.out.own.lt q hq).2; omega)⟩⟩
            case round =>
              obtain ⟨j, hj, rfl, HI⟩ := hrel
              obtain ⟨wr1, hwr1⟩ : ∃ x, x = wr := ⟨_, rfl⟩
              subst hwr1
              obtain ⟨ao, ac, hvf⟩ := owns_form HI.out.own
              subst hvf
              by_cases hjlt : j < d.length
              · have hy := List.getElem?_eq_getElem hjlt
                generalize hgy : d[j] = x at hy
                clear hgy
                have hlen : (cs ++ (d.take j).map fun x => (⟨x, true, ⟨0, 0, 0⟩⟩ : PClaim)).length = cs.length + j := by simp; omega
                have hnx : Hid ((cs ++ (d.take (j + 1)).map fun x => (⟨x, true, ⟨0, 0, 0⟩⟩ : PClaim)) = (cs ++ (d.take j).map fun x => (⟨x, true, ⟨0, 0, 0⟩⟩ : PClaim)) ++ [⟨x, true, ⟨0, 0, 0⟩⟩]) := Lib.hid (by rw [List.take_add_one, hy, Option.toList_some]; simp)
                obtain ⟨db, doff, rfl, t0, t1, t2⟩ := DeclsAt.at (RowsAt.kept HD4.out HI.out.kept (fun q hq => by have := hdo q hq; omega)) hy
                generalize (cs ++ (d.take j).map fun x => (⟨x, true, ⟨0, 0, 0⟩⟩ : PClaim)) = es at *
                go_upto_region 29 with fail
                obtain ⟨wd, HWD⟩ : ∃ x', Hid (wr1.alloc (.cells #[.string (str x.name), .string (str x.val), .bool x.strong] 89 (0, 0)) = x') := ⟨_, rfl⟩
                have hdd : wd.heap[wr1.heap.size]? = some (.cells #[.string (str x.name), .string (str x.val), .bool x.strong] 89 (0, 0)) := by rw [← HWD.out]; exact newIn wr1 _
                have HID : Hid (RILp w wq.heap.size w4 wd (.slice ao es.length ac) es) := Lib.hid (by rw [← HWD.out]; exact HI.out.alloc _)
                have d0 : wd.cell? ⟨wr1.heap.size, 0, none⟩ = some (.string (str x.name)) := cellIn hdd 0 rfl
                have d1 : wd.cell? ⟨wr1.heap.size, 1, none⟩ = some (.string (str x.val)) := cellIn hdd 1 rfl
                have d2 : wd.cell? ⟨wr1.heap.size, 2, none⟩ = some (.bool x.strong) := cellIn hdd 2 rfl
                have hsd : w.heap.size ≤ wd.heap.size := by have := ltIn hdd; have := HI.out.kept.size; omega
                have hel : es.length ≤ 1099511627776 + 80 := by omega
                rw [HWD.out]
                clear hdd t0 t1 t2 hy
                go_wp2_with (at_builtin; refine wpList_append_lies _ rfl _ _ _ rfl w.heap.size 106 i0 _ 7 72 Tryz.underlying99 hi0 hz0 hz1 hz2 rfl (by omega) _ es.length _ (by rfl) (HID.out.own.alloc _) ⟨wd.heap.size, 0, none⟩ 1 1 (claimCells ⟨x, true, ⟨0, 0, 0⟩⟩) (by rfl) (by rfl) (World.news_of_block (cs := (claimCells ⟨x, true, ⟨0, 0, 0⟩⟩).toArray) (t := 106) (fr := (0, 0)) (heap_alloc_new wd _)) (claim_one _) (by omega) (by unfold maxLen; omega) (by omega) (by simp; omega) (wd.heap.size + 1) (by simp) ?_; intro gg cap w15 hown15 hgrow15 hat15 hlt15)
                have hpush := HID.out.push (v' := .slice (some ⟨gg, 0, none⟩) (es.length + 1) cap) (cs' := es ++ [⟨x, true, ⟨0, 0, 0⟩⟩]) hsz4 hwrs hgrow15 hat15 (by rw [← claims_push, List.length_append]; exact hown15) rfl
                have HPU := Lib.hid hpush
                clear hpush hown15 hgrow15 hat15 d0 d1 d2
                go_wp2_with fail
                go_roundw
                case measure => simp [intOf]; omega
                case rel => exact ⟨j + 1, by omega, by go_num, Lib.hid (by rw [hnx.out, ← hlen]; exact HPU.out)⟩
              · obtain rfl : j = d.length := by omega
                go_wp2_with fail
                go_meet
                case rel =>
                  have h1 := HI.out
                  rw [List.take_length] at h1 ⊢
                  refine Lib.hid ⟨(HL.out.kept.trans HK4.out).trans' h1.kept (fun q hq hx => by omega), h1.own, fun c hc => ?_, ?_⟩
                  · rcases List.mem_append.1 hc with hc | hc
                    · exact HL.out.low c hc
                    · obtain ⟨y, _, rfl⟩ := List.mem_map.1 hc
                      exact ⟨Nat.zero_le _, Nat.zero_le _, Nat.zero_le _⟩
                  · unfold ownClaims
                    rw [List.length_append, List.length_map]
                    omega
          case rest =>
            have HCE := hcut
            obtain ⟨CS, HCS⟩ : ∃ x, Hid (cs ++ ownClaims d = x) := ⟨_, Lib.hid rfl⟩
            rw [HCS.out] at HCE hrr
            have HDD : Hid (Ans.ok (cLook CS) = D) := Lib.hid (by rw [← HDR.out, hrr.out]; rfl)
            obtain ⟨w1, hw1⟩ : ∃ x, x = wc := ⟨_, rfl⟩
            subst hw1
            clear HD4 HK4 HOW4 HL HR2 HK2 HKF hf0 hrr hcut
            obtain ⟨co, cc, hvf⟩ := owns_form HCE.out.2.1
            subst hvf
            have hcl := HCE.out.2.2.2
            have HLOW : Hid (∀ c ∈ CS, c.w.low 1048576) := Lib.hid HCE.out.2.2.1
            have HCR : Hid (RowsAt w1 7 (.slice co CS.length cc) (CS.map claimCells)) := Lib.hid (rowsAt_of_owns (fun r hr => by obtain ⟨x, _, rfl⟩ := List.mem_map.1 hr; rfl) (by simp) HCE.out.2.1)
            have HKW : Hid (Kept (fun _ => False) w w1) := Lib.hid HCE.out.1
            obtain ⟨p0, hp0, hq0, hq1, hq2⟩ := info_parts info_won
            clear HCE
            go_wp2_with fail
            go_loopw [27, 132] (fun v2 c wr => ∃ i : Nat, i ≤ CS.length ∧ c = .int .i64 (i : Int) ∧ Hid (wr.ownsRow w1.heap.size 95 3 v2 (rLook CS i).length ((rLook CS i).map declCells).flatten) ∧ Hid (Kept (fun _ => False) w1 wr)) (fun _ c _ => CS.length - (intOf c).toNat)
            case atStart => exact ⟨0, by omega, rfl, Lib.hid (World.ownsRow_nil _ _ _ _), Lib.hid (Kept.refl _ _)⟩
            case round =>
              obtain ⟨i, hi, rfl, HO, HKR⟩ := hrel
              obtain ⟨wr0, hwr0⟩ : ∃ x, x = wr := ⟨_, rfl⟩
              subst hwr0
              obtain ⟨vo2, vc2, hvf⟩ := owns_form HO.out
              subst hvf
              by_cases hlt : i < CS.length
              · have hx := List.getElem?_eq_getElem hlt
                generalize hgx : CS[i] = c at hx
                clear hgx
                have HX := Lib.hid hx
                have HCL : Hid (c.w.low 1048576) := Lib.hid (HLOW.out c (List.mem_of_getElem? hx))
                obtain ⟨cb, coff, rfl, hcc⟩ := RowsAt.at (RowsAt.below HCR.out HKR.out.below) (k := i) (r := claimCells c) (by simp [hx])
                have t0 : wr0.cell? ⟨cb, coff + i * 7, none⟩ = some (.string (str c.d.name)) := hcc 0 _ rfl
                have t1 : wr0.cell? ⟨cb, coff + i * 7 + 1, none⟩ = some (.string (str c.d.val)) := hcc 1 _ rfl
                have t2 : wr0.cell? ⟨cb, coff + i * 7 + 2, none⟩ = some (.bool c.d.strong) := hcc 2 _ rfl
                have t3 : wr0.cell? ⟨cb, coff + i * 7 + 3, none⟩ = some (.bool c.own) := hcc 3 _ rfl
                have t4 : wr0.cell? ⟨cb, coff + i * 7 + 4, none⟩ = some (.int .i64 (c.w.a : Int)) := hcc 4 _ rfl
                have t5 : wr0.cell? ⟨cb, coff + i * 7 + 5, none⟩ = some (.int .i64 (c.w.b : Int)) := hcc 5 _ rfl
                have t6 : wr0.cell? ⟨cb, coff + i * 7 + 6, none⟩ = some (.int .i64 (c.w.c : Int)) := hcc 6 _ rfl
                obtain ⟨wz, HWZ⟩ : ∃ x, Hid (wr0.alloc (.cells #[.string (str c.d.name), .string (str c.d.val), .bool c.d.strong, .bool c.own, .int .i64 (c.w.a : Int), .int .i64 (c.w.b : Int), .int .i64 (c.w.c : Int)] 106 (0, 0)) = x) := ⟨_, Lib.hid rfl⟩
                obtain ⟨bk, HBK⟩ : ∃ x, Hid (wr0.heap.size = x) := ⟨_, Lib.hid rfl⟩
                have HZ : Hid (wz.heap[bk]? = some (.cells #[.string (str c.d.name), .string (str c.d.val), .bool c.d.strong, .bool c.own, .int .i64 (c.w.a : Int), .int .i64 (c.w.b : Int), .int .i64 (c.w.c : Int)] 106 (0, 0))) := Lib.hid (by rw [← HWZ.out, ← HBK.out]; exact newIn wr0 _)
                have HKZ : Hid (Kept (fun _ => False) w1 wz) := Lib.hid (by rw [← HWZ.out]; exact HKR.out.alloc _)
                have HOZ := Lib.hid (owns_kept HO.out (S := fun _ => False) (w' := wz) (by rw [← HWZ.out]; exact (Kept.refl _ wr0).alloc _) (fun _ _ => id))
                clear hcc hx
                go_upto_region 36 with fail
                rw [HWZ.out, HBK.out]
                clear t0 t1 t2 t3 t4 t5 t6
                go_upto_block 8 with fail
                go_cut [30] (fun bv wx => ∃ bb : Bool, bv = .bool bb ∧ Hid (rWinsTo CS i c CS.length = bb) ∧ Hid (Kept (fun _ => False) wz wx))
                case first =>
                  go_wp2_with fail
                  go_loopw [30, 139] (fun bv cj wx => ∃ (j : Nat) (bb : Bool), j ≤ CS.length ∧ cj = .int .i64 (j : Int) ∧ bv = .bool bb ∧ Hid (rWinsTo CS i c j = bb) ∧ Hid (Kept (fun _ => False) wz wx)) (fun _ cj _ => CS.length - (intOf cj).toNat)
                  case atStart => exact ⟨0, true, by omega, rfl, rfl, Lib.hid rfl, Lib.hid (Kept.refl _ _)⟩
                  case round =>
                    obtain ⟨j, bb, hj, rfl, rfl, HW, HKX⟩ := hrel
                    obtain ⟨wx0, hwx0⟩ : ∃ x, x = wr := ⟨_, rfl⟩
                    subst hwx0
                    by_cases hjlt : j < CS.length
                    · have hy := List.getElem?_eq_getElem hjlt
                      generalize hgy : CS[j] = o at hy
                      clear hgy
                      have HOL : Hid (o.w.low 1048576) := Lib.hid (HLOW.out o (List.mem_of_getElem? hy))
                      have HNX : Hid (rWinsTo CS i c (j + 1) = (bb && (if o.d.name = c.d.name then (if i < j then !beats o c else if j < i then beats c o else true) else true))) := Lib.hid (by
                        show (rWinsTo CS i c j && rHit CS i c j) = _
                        rw [HW.out]; unfold rHit; rw [hy])
                      obtain ⟨ob, ooff, hoe, hoc⟩ := RowsAt.at (RowsAt.below HCR.out (HKZ.out.trans HKX.out).below) (k := j) (r := claimCells o) (by simp [hy])
                      cases hoe
                      have t0 : wx0.cell? ⟨cb, coff + j * 7, none⟩ = some (.string (str o.d.name)) := hoc 0 _ rfl
                      have t1 : wx0.cell? ⟨cb, coff + j * 7 + 1, none⟩ = some (.string (str o.d.val)) := hoc 1 _ rfl
                      have t2 : wx0.cell? ⟨cb, coff + j * 7 + 2, none⟩ = some (.bool o.d.strong) := hoc 2 _ rfl
                      have t3 : wx0.cell? ⟨cb, coff + j * 7 + 3, none⟩ = some (.bool o.own) := hoc 3 _ rfl
                      have t4 : wx0.cell? ⟨cb, coff + j * 7 + 4, none⟩ = some (.int .i64 (o.w.a : Int)) := hoc 4 _ rfl
                      have t5 : wx0.cell? ⟨cb, coff + j * 7 + 5, none⟩ = some (.int .i64 (o.w.b : Int)) := hoc 5 _ rfl
                      have t6 : wx0.cell? ⟨cb, coff + j * 7 + 6, none⟩ = some (.int .i64 (o.w.c : Int)) := hoc 6 _ rfl
                      obtain ⟨wy, HWY⟩ : ∃ x, Hid (wx0.alloc (.cells #[.string (str o.d.name), .string (str o.d.val), .bool o.d.strong, .bool o.own, .int .i64 (o.w.a : Int), .int .i64 (o.w.b : Int), .int .i64 (o.w.c : Int)] 106 (0, 0)) = x) := ⟨_, Lib.hid rfl⟩
                      obtain ⟨yk, HYK⟩ : ∃ x, Hid (wx0.heap.size = x) := ⟨_, Lib.hid rfl⟩
                      have hyb : wy.heap[yk]? = some (.cells #[.string (str o.d.name), .string (str o.d.val), .bool o.d.strong, .bool o.own, .int .i64 (o.w.a : Int), .int .i64 (o.w.b : Int), .int .i64 (o.w.c : Int)] 106 (0, 0)) := by rw [← HWY.out, ← HYK.out]; exact newIn wx0 _
                      have HKY : Hid (Kept (fun _ => False) wz wy) := Lib.hid (by rw [← HWY.out]; exact HKX.out.alloc _)
                      have hcb := HKY.out.heap id HZ.out
                      have HC1 : Hid (Calls Tryz.prog 38 #[.agg #[.string (str o.d.name), .string (str o.d.val), .bool o.d.strong, .bool o.own, .int .i64 (o.w.a : Int), .int .i64 (o.w.b : Int), .int .i64 (o.w.c : Int)], .agg #[.string (str c.d.name), .string (str c.d.val), .bool c.d.strong, .bool c.own, .int .i64 (c.w.a : Int), .int .i64 (c.w.b : Int), .int .i64 (c.w.c : Int)]] wy fun e w' => e = .returned (.bool (beats o c)) ∧ Kept (fun _ => False) wy w') := Lib.hid (rbeats_any o c HOL.out HCL.out wy)
                      have HC2 : Hid (Calls Tryz.prog 38 #[.agg #[.string (str c.d.name), .string (str c.d.val), .bool c.d.strong, .bool c.own, .int .i64 (c.w.a : Int), .int .i64 (c.w.b : Int), .int .i64 (c.w.c : Int)], .agg #[.string (str o.d.name), .string (str o.d.val), .bool o.d.strong, .bool o.own, .int .i64 (o.w.a : Int), .int .i64 (o.w.b : Int), .int .i64 (o.w.c : Int)]] wy fun e w' => e = .returned (.bool (beats c o)) ∧ Kept (fun _ => False) wy w') := Lib.hid (rbeats_any c o HCL.out HOL.out wy)
                      go_upto_region 40 with fail
                      rw [HWY.out, HYK.out]
                      clear t0 t1 t2 t3 t4 t5 t6 hoc hy
                      have y0 := cellIn hyb 0 rfl
                      have y1 := cellIn hyb 1 rfl
                      have y2 := cellIn hyb 2 rfl
                      have y3 := cellIn hyb 3 rfl
                      have y4 := cellIn hyb 4 rfl
                      have y5 := cellIn hyb 5 rfl
                      have y6 := cellIn hyb 6 rfl
                      have x0 := cellIn hcb 0 rfl
                      have x1 := cellIn hcb 1 rfl
                      have x2 := cellIn hcb 2 rfl
                      have x3 := cellIn hcb 3 rfl
                      have x4 := cellIn hcb 4 rfl
                      have x5 := cellIn hcb 5 rfl
                      have x6 := cellIn hcb 6 rfl
                      clear hyb hcb
                      cases hnm : (o.d.name == c.d.name) with
                      | false =>
                        have hn2 : Hid (rWinsTo CS i c (j + 1) = bb) := Lib.hid (by rw [HNX.out, if_neg (by simpa using hnm), Bool.and_true])
                        go_wp2_with fail
                        go_roundw
                        case measure => simp [intOf]; omega
                        case rel => exact ⟨j + 1, bb, by omega, by go_num, rfl, hn2, HKY⟩
                      | true =>
                        have hnx := HNX.out
                        rw [if_pos (by simpa using hnm)] at hnx
                        rcases Nat.lt_trichotomy i j with hij | hij | hij
                        · rw [if_pos hij] at hnx
                          have hnx' := Lib.hid hnx
                          have e1 : ((i : Int) == (j : Int)) = false := by simp; omega
                          have e2 : (i : Int) < (j : Int) := by omega
                          have e3 : ¬ (j : Int) < (i : Int) := by omega
                          obtain ⟨hb, HHB⟩ : ∃ x, Hid (beats o c = x) := ⟨_, Lib.hid rfl⟩
                          have HC3 := HC1.out
                          rw [HHB.out] at HC3
                          replace HC3 := Lib.hid HC3
                          rw [HHB.out] at hnx'
                          clear hnx hij
                          go_wp2_with fail
                          refine HC3.out.mono ?_
                          rintro e w8 ⟨rfl, hk8⟩
                          have HK8 := Lib.hid (HKY.out.trans hk8)
                          clear hk8 x0 x1 x2 x3 x4 x5 x6 y0 y1 y2 y3 y4 y5 y6
                          cases hb with
                          | true =>
                            go_wp2_with fail
                            go_roundw
                            case measure => simp [intOf]; omega
                            case rel => exact ⟨j + 1, false, by omega, by go_num, rfl, Lib.hid (by rw [hnx'.out]; simp), HK8⟩
                          | false =>
                            go_wp2_with fail
                            go_roundw
                            case measure => simp [intOf]; omega
                            case rel => exact ⟨j + 1, bb, by omega, by go_num, rfl, Lib.hid (by rw [hnx'.out]; simp), HK8⟩
                        · subst hij
                          rw [if_neg (by omega), if_neg (by omega), Bool.and_true] at hnx
                          have hnx' := Lib.hid hnx
                          clear hnx
                          go_wp2_with fail
                          go_roundw
                          case measure => simp [intOf]; omega
                          case rel => exact ⟨i + 1, bb, by omega, by go_num, rfl, hnx', HKY⟩
                        · rw [if_neg (by omega), if_pos hij] at hnx
                          have hnx' := Lib.hid hnx
                          have e1 : ((i : Int) == (j : Int)) = false := by simp; omega
                          have e2 : (j : Int) < (i : Int) := by omega
                          have e3 : ¬ (i : Int) < (j : Int) := by omega
                          obtain ⟨hb, HHB⟩ : ∃ x, Hid (beats c o = x) := ⟨_, Lib.hid rfl⟩
                          have HC3 := HC2.out
                          rw [HHB.out] at HC3
                          replace HC3 := Lib.hid HC3
                          rw [HHB.out] at hnx'
                          clear hnx hij
                          go_wp2_with fail
                          refine HC3.out.mono ?_
                          rintro e w8 ⟨rfl, hk8⟩
                          have HK8 := Lib.hid (HKY.out.trans hk8)
                          clear hk8 x0 x1 x2 x3 x4 x5 x6 y0 y1 y2 y3 y4 y5 y6
                          cases hb with
                          | true =>
                            go_wp2_with fail
                            go_roundw
                            case measure => simp [intOf]; omega
                            case rel => exact ⟨j + 1, bb, by omega, by go_num, rfl, Lib.hid (by rw [hnx'.out]; simp), HK8⟩
                          | false =>
                            go_wp2_with fail
                            go_roundw
                            case measure => simp [intOf]; omega
                            case rel => exact ⟨j + 1, false, by omega, by go_num, rfl, Lib.hid (by rw [hnx'.out]; simp), HK8⟩
                    · obtain rfl : j = CS.length := by omega
                      go_wp2_with fail
                      go_meet
                      case rel => exact ⟨bb, rfl, HW, HKX⟩
                case rest =>
                  obtain ⟨bb, rfl, HW, HKX⟩ := hcut
                  have HNL : Hid (rLook CS (i + 1) = if bb = true then rIns c.d (rLook CS i) else rLook CS i) := Lib.hid (by rw [rLook_next HX.out, HW.out])
                  obtain ⟨w2, hw2⟩ : ∃ x, x = wc := ⟨_, rfl⟩
                  subst hw2
                  cases bb with
                  | false =>
                    have hnl := HNL.out
                    rw [if_neg (by simp)] at hnl
                    have HO2 : Hid (w2.ownsRow w1.heap.size 95 3 (.slice vo2 (rLook CS i).length vc2) (rLook CS (i + 1)).length ((rLook CS (i + 1)).map declCells).flatten) := Lib.hid (by rw [hnl]; exact owns_kept HOZ.out HKX.out (fun _ _ => id))
                    clear hnl
                    go_wp2_with fail
                    go_roundw
                    case measure => simp [intOf]; omega
                    case rel => exact ⟨i + 1, by omega, by go_num, HO2, Lib.hid (HKZ.out.trans HKX.out)⟩
                  | true =>
                    have hnl := HNL.out
                    rw [if_pos rfl] at hnl
                    have hyl0 := rLook_len CS i
                    obtain ⟨ys, HYS⟩ : ∃ x, Hid (rLook CS i = x) := ⟨_, Lib.hid rfl⟩
                    have ho2 := owns_kept HOZ.out HKX.out (fun _ _ => id)
                    rw [HYS.out] at hnl ho2 hyl0 ⊢
                    have hyl : ys.length ≤ 1099599999999 := by omega
                    have HNL2 := Lib.hid hnl
                    have hbx := HKX.out.heap id HZ.out
                    have x0 := cellIn hbx 0 rfl
                    have x1 := cellIn hbx 1 rfl
                    have x2 := cellIn hbx 2 rfl
                    obtain ⟨wb, HWB⟩ : ∃ x, Hid (w2.alloc (.cells #[.string (str c.d.name), .string (str c.d.val), .bool c.d.strong] 95 (0, 0)) = x) := ⟨_, Lib.hid rfl⟩
                    obtain ⟨xk, HXK⟩ : ∃ x, Hid (w2.heap.size = x) := ⟨_, Lib.hid rfl⟩
                    have HXB : Hid (wb.heap[xk]? = some (.cells #[.string (str c.d.name), .string (str c.d.val), .bool c.d.strong] 95 (0, 0))) := Lib.hid (by rw [← HWB.out, ← HXK.out]; exact newIn w2 _)
                    have HOB : Hid (wb.ownsRow w1.heap.size 95 3 (.slice vo2 ys.length vc2) ys.length (ys.map declCells).flatten) := Lib.hid (by rw [← HWB.out]; exact ho2.alloc _)
                    have HKB : Hid (Kept (fun _ => False) w1 wb) := Lib.hid (by rw [← HWB.out]; exact (HKZ.out.trans HKX.out).alloc _)
                    obtain ⟨pp, HPP⟩ : ∃ x, Hid (rPos c.d.name ys = x) := ⟨_, Lib.hid rfl⟩
                    have hpl : pp ≤ ys.length := by rw [← HPP.out]; exact rPos_le _ _
                    clear hbx hnl ho2 hyl0 HNL
                    go_upto_region 46 with fail
                    rw [HWB.out, HXK.out]
                    clear x0 x1 x2
                    go_upto_block 10 with fail
                    go_cut [34] (fun p wx => p = .int .i64 (pp : Int) ∧ Hid (Qt wb wx))
                    case first =>
                      go_wp2_with fail
                      go_loopw [34] (fun p wx => ∃ j : Nat, j ≤ pp ∧ p = .int .i64 (j : Int) ∧ Hid (Qt wb wx)) (fun p _ => pp - (intOf p).toNat)
                      case atStart => exact ⟨0, by omega, rfl, Lib.hid (Qt.refl _)⟩
                      case round =>
                        obtain ⟨j, hj, rfl, HQ⟩ := hrel
                        obtain ⟨wx0, hwx0⟩ : ∃ x, x = wr := ⟨_, rfl⟩
                        subst hwx0
                        by_cases hjl : j < ys.length
                        · have hy := List.getElem?_eq_getElem hjl
                          generalize hgy : ys[j] = y at hy
                          clear hgy
                          have hdy : DeclsAt wx0 (.slice vo2 ys.length vc2) ys := RowsAt.quiet (rowsAt_of_owns decl_rows (by simp) HOB.out) HQ.out
                          obtain ⟨yb, yo, hye, t0, t1, t2⟩ := DeclsAt.at hdy hy
                          subst hye
                          have hxb := (HQ.out.kept (fun _ => False)).heap id HXB.out
                          have x0 := cellIn hxb 0 rfl
                          have e1 : decide ((j : Int) < (ys.length : Int)) = true := by simp; omega
                          by_cases hjp : j < pp
                          · have e2 : Op.bytesLess y.name c.d.name = true := by rw [less_bLt]; exact rPos_in c.d.name ys j y (by rw [HPP.out]; exact hjp) hy
                            clear hy t1 t2 hdy hxb
                            go_wp2_with fail
                            go_quiet (fail)
                            go_wp2_with fail
                            go_roundw
                            case measure => simp [intOf]; omega
                            case rel => exact ⟨j + 1, by omega, by go_num, Lib.hid (Qt.trans HQ.out ⟨nq, rfl⟩)⟩
                          · obtain rfl : j = pp := by omega
                            have e2 : Op.bytesLess y.name c.d.name = false := by rw [less_bLt]; exact rPos_out c.d.name ys y (by rw [HPP.out]; exact hy)
                            clear hy t1 t2 hdy hxb
                            go_wp2_with fail
                            go_quiet (fail)
                            go_wp2_with fail
                            go_meet
                            case rel => exact ⟨rfl, Lib.hid (Qt.trans HQ.out ⟨nq, rfl⟩)⟩
                        · have e1 : decide ((j : Int) < (ys.length : Int)) = false := by simp; omega
                          obtain rfl : j = pp := by omega
                          go_wp2_with fail
                          go_quiet (fail)
                          go_wp2_with fail
                          go_meet
                          case rel => exact ⟨rfl, Lib.hid (Qt.trans HQ.out ⟨nq, rfl⟩)⟩
                    case rest =>
                      obtain ⟨rfl, HQ⟩ := hcut
                      obtain ⟨w5, hw5⟩ : ∃ x, x = wc := ⟨_, rfl⟩
                      subst hw5
                      have hk5 := HQ.out.kept (fun _ => False)
                      have hxb := hk5.heap id HXB.out
                      have c0 := cellIn hxb 0 rfl
                      have c1 := cellIn hxb 1 rfl
                      have c2 := cellIn hxb 2 rfl
                      have ho5 := owns_kept HOB.out hk5 (fun _ _ => id)
                      have HK5 := Lib.hid (HKB.out.trans hk5)
                      have hs5 : w1.heap.size ≤ w5.heap.size := HK5.out.size
                      have HFIN : Hid (∀ (w8 : World) (a8 : Option Addr) (c8 N : Nat), N = pp + 1 + (ys.length - pp) → w8.ownsRow w5.heap.size 95 3 (.slice a8 N c8) N (((ys.take pp).map declCells ++ [declCells c.d]) ++ (ys.drop pp).map declCells).flatten →
                          w8.ownsRow w1.heap.size 95 3 (.slice a8 N c8) (rLook CS (i + 1)).length ((rLook CS (i + 1)).map declCells).flatten ∧ N = (rLook CS (i + 1)).length) := Lib.hid (fun w8 a8 c8 N hN ho => by
                        have he := rIns_at c.d ys
                        rw [HPP.out] at he
                        have hl : (rLook CS (i + 1)).length = N := by rw [HNL2.out, rIns_len]; omega
                        rw [hl]
                        refine ⟨?_, rfl⟩
                        rw [HNL2.out, he, List.map_append, List.map_append]
                        exact owns_base ho hs5)
                      clear hxb hk5
                      have EA : (w5.drew.alloc (.cells #[] 95 (0, 0))).heap[w5.heap.size]? = some (.cells #[] 95 (0, 0)) := newIn w5.drew _
                      have EAB0 : ((w5.drew.alloc (.cells #[] 95 (0, 0))).alloc (.cells #[.string (str c.d.name), .string (str c.d.val), .bool c.d.strong] 95 (0, 0))).heap[w5.heap.size]? = some (.cells #[] 95 (0, 0)) := oldIn EA _
                      have EAB1 : ((w5.drew.alloc (.cells #[] 95 (0, 0))).alloc (.cells #[.string (str c.d.name), .string (str c.d.val), .bool c.d.strong] 95 (0, 0))).heap[w5.heap.size + 1]? = some (.cells #[.string (str c.d.name), .string (str c.d.val), .bool c.d.strong] 95 (0, 0)) := by
                        have := newIn (w5.drew.alloc (.cells #[] 95 (0, 0))) (.cells #[.string (str c.d.name), .string (str c.d.val), .bool c.d.strong] 95 (0, 0))
                        simpa using this
                      have EBA0 : ((w5.drew.alloc (.cells #[.string (str c.d.name), .string (str c.d.val), .bool c.d.strong] 95 (0, 0))).alloc (.cells #[] 95 (0, 0))).heap[w5.heap.size]? = some (.cells #[.string (str c.d.name), .string (str c.d.val), .bool c.d.strong] 95 (0, 0)) := oldIn (newIn w5.drew _) _
                      have EBA1 : ((w5.drew.alloc (.cells #[.string (str c.d.name), .string (str c.d.val), .bool c.d.strong] 95 (0, 0))).alloc (.cells #[] 95 (0, 0))).heap[w5.heap.size + 1]? = some (.cells #[] 95 (0, 0)) := by
                        have := newIn (w5.drew.alloc (.cells #[.string (str c.d.name), .string (str c.d.val), .bool c.d.strong] 95 (0, 0))) (.cells #[] 95 (0, 0))
                        simpa using this
                      have HLT : Hid (∀ r ∈ (ys.take pp).map declCells, r.length = 3) := Lib.hid decl_len3
                      have HLD : Hid (∀ r ∈ (ys.drop pp).map declCells, r.length = 3) := Lib.hid decl_len3
                      have HOT : Hid (∀ u ∈ ((ys.take pp).map declCells).flatten, u.oneCell' = true) := Lib.hid decl_ones'
                      have HOD : Hid (∀ u ∈ ((ys.drop pp).map declCells).flatten, u.oneCell' = true) := Lib.hid decl_ones'
                      have HON : Hid (∀ u ∈ declCells c.d, u.oneCell' = true) := Lib.hid (by
                        intro u hu
                        simp only [declCells, List.mem_cons, List.not_mem_nil, or_false] at hu
                        rcases hu with rfl | rfl | rfl <;> rfl)
                      have i1 : (0 : Int) ≤ (pp : Int) := by omega
                      have i4 : (pp : Int) ≤ (ys.length : Int) := by omega
                      rcases ho5.2 with ⟨hv, hn⟩ | ⟨g, cap, cur, hv, hg1, hg2, hg3, hg4, hg5, hg6⟩
                      · simp only [Value.slice.injEq] at hv
                        obtain ⟨rfl, _, rfl⟩ := hv
                        obtain rfl : ys = [] := List.length_eq_zero_iff.1 hn
                        obtain rfl : pp = 0 := by simpa using hpl
                        have HRT : Hid (RowsAt w5 3 (.slice none 0 0) (([] : List PDecl).map declCells)) := Lib.hid (RowsAt.nil _ _)
                        simp only [List.take_nil, List.drop_nil, List.length_nil] at HLT HLD HOT HOD HFIN
                        clear ho5 hn
                        go_wp2_with fail
                        go_region_held3 (fun w' => w'.cell? ⟨xk, 0, none⟩ = some (.string (str c.d.name)) ∧ w'.cell? ⟨xk, 1, none⟩ = some (.string (str c.d.val)) ∧ w'.cell? ⟨xk, 2, none⟩ = some (.bool c.d.strong))
                          (first | exact ⟨hk8.cell id c0, hk8.cell id c1, hk8.cell id c2⟩ | exact ⟨hk7.cell id c0, hk7.cell id c1, hk7.cell id c2⟩ | exact ⟨hk6.cell id c0, hk6.cell id c1, hk6.cell id c2⟩ | go_keep)
                          (first
                            | (refine arm_w3 (w5 := w5) hp0 hq0 rfl hq1 hq2 (by rfl) (.tmp 212) (.tmp 215) (by rfl) _ _ 1 _ _ 0 _ _ (by rfl) (by rfl) ho7 hk7 HRT.out HLD.out HOD.out (by omega) (by omega) ?_; intro a8 c8 w8 ho8 hk8)
                            | (refine arm_w2 (w5 := w5) hp0 hq0 rfl hq1 hq2 (by rfl) (.tmp 209) (.tmp 211) (by rfl) _ _ 0 _ (([] : List PDecl).map declCells) (declCells c.d) (by rfl) HON.out (by rfl) (by rfl) (by first | exact ho6 | exact ho6.alloc _) (by first | exact newIn _ _ | exact hf6 _ _ (by omega) EAB1 | exact hf6 _ _ (by omega) EBA0) (by first | exact hk6 | exact hk6.alloc _) (by omega) ?_; intro a7 c7 w7 ho7 hk7)
                            | (refine arm_w1 (w5 := w5) hp0 hq0 rfl hq1 hq2 (by rfl) (.tmp 205) (.tmp 208) (by rfl) _ _ _ 0 _ (by rfl) (by rfl) (by assumption) (by omega) (by first | exact (Kept.refl _ w5).drew.alloc _ | exact ((Kept.refl _ w5).drew.alloc _).alloc _) HRT.out HLT.out HOT.out (by omega) ?_; intro a6 c6 w6 ho6 hk6 hf6))
                        all_goals
                          obtain ⟨hz8, hz9⟩ := HFIN.out w8 a8 c8 _ rfl ho8
                          have HZ8 := Lib.hid hz8
                          have HK8 := Lib.hid (HK5.out.trans hk8)
                          clear ho8 hk8 ho7 hk7 ho6 hk6 hf6 EA EAB0 EAB1 EBA0 EBA1 c0 c1 c2 hz8
                          go_wp2_with fail
                          go_roundw
                          case measure => simp [intOf]; omega
                          case rel => exact ⟨i + 1, by omega, by go_num, HZ8, HK8⟩
                      · simp only [Value.slice.injEq] at hv
                        obtain ⟨rfl, _, rfl⟩ := hv
                        have hca : ys.length ≤ vc2 := hg3
                        have hcm : vc2 ≤ 9223372036854775807 := by unfold maxLen at hg4; omega
                        have hrw : RowsAt w5 3 (.slice (some ⟨g, 0, none⟩) ys.length vc2) (ys.map declCells) := rowsAt_of_owns decl_rows (by simp) ho5
                        have HRT : Hid (RowsAt w5 3 (.slice (some ⟨g, 0, none⟩) pp vc2) ((ys.take pp).map declCells)) := Lib.hid (by rw [List.map_take]; exact hrw.takeN hpl)
                        have HRD : Hid (RowsAt w5 3 (.slice (some ⟨g, pp * 3, none⟩) (ys.length - pp) (vc2 - pp)) ((ys.drop pp).map declCells)) := Lib.hid (by
                          have := hrw.dropN hpl
                          rw [List.map_drop]; rw [Nat.zero_add] at this; exact this)
                        have HRN : Hid (vc2 = pp → RowsAt w5 3 (.slice (some ⟨g, 0, none⟩) (ys.length - pp) (vc2 - pp)) ((ys.drop pp).map declCells)) := Lib.hid (fun hc => by
                          have h0 : ys.drop pp = [] := List.drop_of_length_le (by omega)
                          have h1 : ys.length - pp = 0 := by omega
                          rw [h0, h1]
                          exact rows_none (by unfold maxLen; omega))
                        have i2 : (pp : Int) ≤ (vc2 : Int) := by omega
                        clear hrw hg1 hg2 hg3 hg4 hg5 hg6 ho5
                        by_cases hcc : vc2 = pp
                        · have HRNN := Lib.hid (HRN.out hcc)
                          have hct2 : (vc2 = pp) = True := by rw [hcc]; exact eq_self _
                          clear hcc
                          go_wp2_with fail
                          go_region_held3 (fun w' => w'.cell? ⟨xk, 0, none⟩ = some (.string (str c.d.name)) ∧ w'.cell? ⟨xk, 1, none⟩ = some (.string (str c.d.val)) ∧ w'.cell? ⟨xk, 2, none⟩ = some (.bool c.d.strong))
                            (first | exact ⟨hk8.cell id c0, hk8.cell id c1, hk8.cell id c2⟩ | exact ⟨hk7.cell id c0, hk7.cell id c1, hk7.cell id c2⟩ | exact ⟨hk6.cell id c0, hk6.cell id c1, hk6.cell id c2⟩ | go_keep)
                            (first
                              | (refine arm_w3 (w5 := w5) hp0 hq0 rfl hq1 hq2 (by rfl) (.tmp 212) (.tmp 215) (by rfl) _ _ (pp + 1) _ _ (ys.length - pp) _ _ (by rfl) (by rfl) ho7 hk7 HRNN.out HLD.out HOD.out (by omega) (by omega) ?_; intro a8 c8 w8 ho8 hk8)
                              | (refine arm_w2 (w5 := w5) hp0 hq0 rfl hq1 hq2 (by rfl) (.tmp 209) (.tmp 211) (by rfl) _ _ pp _ ((ys.take pp).map declCells) (declCells c.d) (by rfl) HON.out (by rfl) (by rfl) (by first | exact ho6 | exact ho6.alloc _) (by first | exact newIn _ _ | exact hf6 _ _ (by omega) EAB1 | exact hf6 _ _ (by omega) EBA0) (by first | exact hk6 | exact hk6.alloc _) (by omega) ?_; intro a7 c7 w7 ho7 hk7)
                              | (refine arm_w1 (w5 := w5) hp0 hq0 rfl hq1 hq2 (by rfl) (.tmp 205) (.tmp 208) (by rfl) _ _ _ pp _ (by rfl) (by rfl) (by assumption) (by omega) (by first | exact (Kept.refl _ w5).drew.alloc _ | exact ((Kept.refl _ w5).drew.alloc _).alloc _) HRT.out HLT.out HOT.out (by omega) ?_; intro a6 c6 w6 ho6 hk6 hf6))
                          all_goals
                            obtain ⟨hz8, hz9⟩ := HFIN.out w8 a8 c8 _ rfl ho8
                            have HZ8 := Lib.hid hz8
                            have HK8 := Lib.hid (HK5.out.trans hk8)
                            clear ho8 hk8 ho7 hk7 ho6 hk6 hf6 EA EAB0 EAB1 EBA0 EBA1 c0 c1 c2 hz8
                            go_wp2_with fail
                            go_roundw
                            case measure => simp [intOf]; omega
                            case rel => exact ⟨i + 1, by omega, by go_num, HZ8, HK8⟩
                        · have hct2 : (vc2 = pp) = False := by simp; exact hcc
                          clear hcc
                          go_wp2_with fail
                          go_region_held3 (fun w' => w'.cell? ⟨xk, 0, none⟩ = some (.string (str c.d.name)) ∧ w'.cell? ⟨xk, 1, none⟩ = some (.string (str c.d.val)) ∧ w'.cell? ⟨xk, 2, none⟩ = some (.bool c.d.strong))
                            (first | exact ⟨hk8.cell id c0, hk8.cell id c1, hk8.cell id c2⟩ | exact ⟨hk7.cell id c0, hk7.cell id c1, hk7.cell id c2⟩ | exact ⟨hk6.cell id c0, hk6.cell id c1, hk6.cell id c2⟩ | go_keep)
                            (first
                              | (refine arm_w3 (w5 := w5) hp0 hq0 rfl hq1 hq2 (by rfl) (.tmp 212) (.tmp 215) (by rfl) _ _ (pp + 1) _ _ (ys.length - pp) _ _ (by rfl) (by rfl) ho7 hk7 HRD.out HLD.out HOD.out (by omega) (by omega) ?_; intro a8 c8 w8 ho8 hk8)
                              | (refine arm_w2 (w5 := w5) hp0 hq0 rfl hq1 hq2 (by rfl) (.tmp 209) (.tmp 211) (by rfl) _ _ pp _ ((ys.take pp).map declCells) (declCells c.d) (by rfl) HON.out (by rfl) (by rfl) (by first | exact ho6 | exact ho6.alloc _) (by first | exact newIn _ _ | exact hf6 _ _ (by omega) EAB1 | exact hf6 _ _ (by omega) EBA0) (by first | exact hk6 | exact hk6.alloc _) (by omega) ?_; intro a7 c7 w7 ho7 hk7)
                              | (refine arm_w1 (w5 := w5) hp0 hq0 rfl hq1 hq2 (by rfl) (.tmp 205) (.tmp 208) (by rfl) _ _ _ pp _ (by rfl) (by rfl) (by assumption) (by omega) (by first | exact (Kept.refl _ w5).drew.alloc _ | exact ((Kept.refl _ w5).drew.alloc _).alloc _) HRT.out HLT.out HOT.out (by omega) ?_; intro a6 c6 w6 ho6 hk6 hf6))
                          all_goals
                            obtain ⟨hz8, hz9⟩ := HFIN.out w8 a8 c8 _ rfl ho8
                            have HZ8 := Lib.hid hz8
                            have HK8 := Lib.hid (HK5.out.trans hk8)
                            clear ho8 hk8 ho7 hk7 ho6 hk6 hf6 EA EAB0 EAB1 EBA0 EBA1 c0 c1 c2 hz8
                            go_wp2_with fail
                            go_roundw
                            case measure => simp [intOf]; omega
                            case rel => exact ⟨i + 1, by omega, by go_num, HZ8, HK8⟩
              · obtain rfl : i = CS.length := by omega
                have HLL : Hid (rLook CS CS.length = cLook CS) := Lib.hid (rLook_look CS)
                go_wp2_with fail
                refine bodyPost_ret (v := .tuple #[.slice vo2 (rLook CS CS.length).length vc2, .int .i64 0]) (by simp [results, Tryz.results12, go_sem]) rfl ?_
                rw [← HDD.out]
                have ho := HO.out
                have hll := rLook_len CS CS.length
                rw [HLL.out] at ho hll ⊢
                exact ⟨_, rfl, HKW.out.trans HKR.out, rowsAt_of_owns decl_rows (by simp) ho, by omega⟩
  · have hD : D = .bad ⟨6, 0⟩ := by
      rw [← HD.out]; unfold cDeclared
      rw [if_neg (by unfold inR; simp; omega)]
    subst hD
    clear hv hr hmv hm hc
    by_cases hk0 : k < 0
    · go_enter Tryz.func12, Tryz.ntmps12
      go_wp2_with fail
      refine bodyPost_ret (v := .tuple #[.slice none 0 0, .int .i64 6]) (by simp [results, Tryz.results12, go_sem]) rfl ?_
      exact ⟨rfl, Kept.refl _ _, by simp⟩
    · have hk1 : (ns.length : Int) ≤ k := by omega
      go_enter Tryz.func12, Tryz.ntmps12
      go_wp2_with fail
      refine bodyPost_ret (v := .tuple #[.slice none 0 0, .int .i64 6]) (by simp [results, Tryz.results12, go_sem]) rfl ?_
      exact ⟨rfl, Kept.refl _ _, by simp⟩
end Go.Proofs.YtplbdlgmjehckabGreatDoor

