/-
 Lemmas for the claims of this seat: the program's functions walked, and plain laws. In this order: FoLawSame.
-/
import Derived.Test.YtplbdlgmjehckacGreatDoorPk26
import Derived.Test.YtplbdlgmjehckacGreatDoorPkFoSameFull31
namespace Go.Proofs.YtplbdlgmjehckacGreatDoor
open Go.RowKit
set_option linter.unusedVariables false
set_option linter.unusedSimpArgs false
theorem same_reads {s : B} {l : List PNode} {rules : List PRule} {T : PT} (h : ReadAs s l rules T) (m : Int) (w : World) (hm : w.cell? ⟨0, 0, none⟩ = some (.int .i64 m)) :
  Calls Tryz.prog 13 #[.string (str s)] w fun e w' => ∃ lv rv, e = .returned (.tuple #[lv, rv, .agg #[.int .i64 0, .int .i64 0]]) ∧ Kept (fun _ => False) w w' ∧ NodesAt w' lv l ∧ RulesAt w' rv rules := by
 have := read_any s m w hm (by have := h.len; omega)
 rw [as_read h] at this
 exact this
theorem same_set {w : World} {b k : Nat} {cs : Array Value} {t : TypeId} {fz : Nat × Nat} {v : Value} (h : w.heap[b]? = some (.cells cs t fz)) (hv : cs[k]? = some v) : w.setCell ⟨b, k, none⟩ v = w := by
 have hcs : cs.setIfInBounds k v = cs := by
  apply Array.ext_getElem?
  intro i
  rw [Array.getElem?_setIfInBounds]
  split
  ·rename_i hi
   subst hi
   split
   ·exact hv.symm
   ·rename_i hlt
    rw [Array.getElem?_eq_none (by omega)] at hv
    cases hv
  ·rfl
 have h1 : (w.setCell ⟨b, k, none⟩ v).heap = w.heap := by
  apply Array.ext_getElem?
  intro i
  by_cases hi : i = b
  ·subst hi
   rw [setIn h k v, hcs, h]
  ·exact Below.heap_setCell w ⟨b, k, none⟩ v i hi
 have h2 : w.setCell ⟨b, k, none⟩ v = { w with heap := (w.setCell ⟨b, k, none⟩ v).heap } := rfl
 rw [h2, h1]
theorem names_len (name : B) : ∀ rs : List PRule, (∀ r ∈ rs, r.decls.length ≤ 20) → (rs.flatMap rnames).length ≤ 60 * rs.length
 | [], _ => by simp
 | r :: rs, h => by
  have ih := names_len name rs fun q hq => h q (by simp [hq])
  have := h r (by simp)
  rw [List.flatMap_cons, List.length_append, rnames_len, List.length_cons]
  omega
theorem snames_len (name : B) (rs : List PRule) (h : ∀ r ∈ rs, r.decls.length ≤ 20) : (snames name rs).length ≤ 3 + 60 * rs.length := by
 have := names_len name rs h
 simp only [snames, List.length_append, List.length_cons, List.length_nil]
 omega
theorem dflat_len (ds : List PDecl) (j : Nat) : ((ds.take j).flatMap dnames).length ≤ 3 * j := by
 have : ∀ xs : List PDecl, (xs.flatMap dnames).length = 3 * xs.length := by
  intro xs
  induction xs with
  | nil => rfl
  | cons d xs ih => rw [List.flatMap_cons, List.length_append, ih]; simp [dnames]; omega
 rw [this, List.length_take]; omega
theorem SgW.three {w wa : World} {a b c : B} (h : w.alloc (.cells #[.string (str a), .string (str b), .string (str c)] 9 (0, 0)) = wa) : SgW w.heap.size w wa (.slice (some ⟨w.heap.size, 0, none⟩) 3 3) [a, b, c] := by
 subst h
 exact ⟨⟨by simp, .inr ⟨w.heap.size, 3, _, rfl, Nat.le_refl _, newIn w _, Nat.le_refl _, by simp [maxLen], by simp, by simp⟩⟩, (Kept.refl _ w).alloc _, Nat.le_refl _⟩
theorem setsIn_kept {w w' : World} {X : Nat → Prop} {v : Value} {ss : List (List B)} (h : SetsIn w X v ss) (hk : Kept (fun _ => False) w w') : SetsIn w' X v ss :=
 nest_lasts strsIn_lasts _ _ _ _ (fun _ => False) _ _ h hk (fun _ _ h => h.elim) (fun _ _ h => h)
set_option maxRecDepth 100000 in
set_option maxHeartbeats 12800000 in
theorem foldSame_any (s name : B) (m : Int) (w : World) (hm : w.cell? ⟨0, 0, none⟩ = some (.int .i64 m)) (hs : s.length ≤ 9223372036854775807) (hnm : name.length ≤ 9223372036854775807) :
  Calls Tryz.prog 9 #[.string (str s), .string (str name)] w fun e w' => e = .returned (.bool true) ∧ Kept (fun _ => False) w w' := by
 have HA := Lib.hid (alive6_any w m hm)
 have HM := Lib.hid hm
 clear hm
 go_enter Tryz.func9, Tryz.ntmps9
 go_wp2_with (go_at_call 21; refine HA.out.mono ?_; rintro e w1 ⟨rfl, hk1⟩)
 refine (fold_ways s m w1 (hk1.cell id HM.out) hs).mono ?_
 rintro e w2 ⟨hk2, h⟩
 have HK2 := Lib.hid (hk1.trans hk2)
 rcases h with ⟨a, p, rfl, hne⟩ | ⟨l, rules, st, t, T, rfl, hT, hst, hf⟩
 ·have hneI : ((a : Int) != 0) = true := by simp; omega
  clear hne hk1 hk2
  obtain ⟨wb, HWB⟩ : ∃ x, Hid (w2.alloc (.cells #[.int .i64 (a : Int), .int .i64 (p : Int)] 26 (0, 0)) = x) := ⟨_, Lib.hid rfl⟩
  have c0 : wb.cell? ⟨w2.heap.size, 0, none⟩ = some (.int .i64 (a : Int)) := by rw [← HWB.out]; exact cellIn (newIn w2 _) 0 rfl
  have HKB : Hid (Kept (fun _ => False) w wb) := Lib.hid (by rw [← HWB.out]; exact HK2.out.alloc _)
  go_upto_region 4 with fail
  rw [HWB.out]
  go_wp2_with fail
  go_ret
  exact ⟨rfl, HKB.out⟩
 ·obtain ⟨ms, qs, F⟩ := fold_reads hT hst.len hf
  have HT := Lib.hid hT
  have HST := Lib.hid hst
  have HF := Lib.hid F
  have hmost := hT.most
  have HLIM := Lib.hid (read_lim (as_read hT))
  have HLEN := Lib.hid F.rel.len
  obtain ⟨wb, HWB⟩ : ∃ x, Hid (w2.alloc (.cells #[.int .i64 0, .int .i64 0] 26 (0, 0)) = x) := ⟨_, Lib.hid rfl⟩
  have c0 : wb.cell? ⟨w2.heap.size, 0, none⟩ = some (.int .i64 0) := by rw [← HWB.out]; exact cellIn (newIn w2 _) 0 rfl
  have HKB : Hid (Kept (fun _ => False) w wb) := Lib.hid (by rw [← HWB.out]; exact HK2.out.alloc _)
  have HFB : Hid (wb.heap[w2.heap.size]? = some (.cells #[.int .i64 0, .int .i64 0] 26 (0, 0))) := Lib.hid (by rw [← HWB.out]; exact newIn w2 _)
  clear hk1 hk2 hT hst hf F
  go_upto_region 4 with fail
  rw [HWB.out]
  go_wp2_with fail
  refine (same_reads HT.out m wb (HKB.out.cell id HM.out)).mono ?_
  rintro e w3 ⟨lv, rv, rfl, hk3, hl3, hr3⟩
  obtain ⟨la, lc, rfl, hlc1, hlc2⟩ := hl3.form
  obtain ⟨ra, rc, rfl, hrc1, hrc2⟩ := NestAt.form hr3
  unfold maxLen at hlc2 hrc2
  have HF3 := Lib.hid (hk3.heap id HFB.out)
  have HL3 := Lib.hid hl3
  have HR3 := Lib.hid hr3
  have HK3 := Lib.hid (HKB.out.trans hk3)
  have d0 := cellIn HF3.out 0 rfl
  have d1 := cellIn HF3.out 1 rfl
  have f0 := freeIn HF3.out 0
  have f1 := freeIn HF3.out 1
  clear hk3 hl3 hr3 c0
  go_upto_region 7 with fail
  rw [same_set HF3.out rfl, same_set HF3.out rfl]
  go_wp2_with fail
  refine (same_reads HF.out.dst m w3 (HK3.out.cell id HM.out)).mono ?_
  rintro e w5 ⟨mv, qv, rfl, hk5, hm5, hq5⟩
  obtain ⟨ma, mc, rfl, hmc1, hmc2⟩ := hm5.form
  obtain ⟨qa, qc, rfl, hqc1, hqc2⟩ := NestAt.form hq5
  unfold maxLen at hmc2 hqc2
  obtain ⟨w6, HW6⟩ : ∃ x, Hid (w5.alloc (.cells #[.int .i64 0, .int .i64 0] 26 (0, 0)) = x) := ⟨_, Lib.hid rfl⟩
  have hk6 : Kept (fun _ => False) w5 w6 := by rw [← HW6.out]; exact (Kept.refl _ w5).alloc _
  have c0 : w6.cell? ⟨w5.heap.size, 0, none⟩ = some (.int .i64 0) := by rw [← HW6.out]; exact cellIn (newIn w5 _) 0 rfl
  have c1 : w6.cell? ⟨w2.heap.size, 0, none⟩ = some (.int .i64 0) := cellIn ((hk5.trans hk6).heap id HF3.out) 0 rfl
  have HL6 := Lib.hid (nodes_firm.kept HL3.out (hk5.trans hk6))
  have HR6 := Lib.hid (rules_firm.kept HR3.out (hk5.trans hk6))
  have HM6 := Lib.hid (nodes_firm.kept hm5 hk6)
  have HQ6 := Lib.hid (rules_firm.kept hq5 hk6)
  have HK6 := Lib.hid ((HK3.out.trans hk5).trans hk6)
  clear hk5 hm5 hq5 hk6 d0 d1 f0 f1
  have hneL : ((l.length : Int) != (ms.length : Int)) = false := by rw [HLEN.out]; simp
  go_upto_region 8 with fail
  rw [HW6.out]
  go_upto_region 10 with fail
  clear c0 c1
  obtain ⟨w7, HW7⟩ : ∃ x, Hid (w6.alloc (.cells #[.string (str name), .string (str [99, 111, 108, 111, 114]), .string (str [115, 105, 122, 101])] 9 (0, 0)) = x) := ⟨_, Lib.hid rfl⟩
  obtain ⟨nb, HNB⟩ : ∃ x, Hid (w6.heap.size = x) := ⟨_, Lib.hid rfl⟩
  have HS7 : Hid (SgW nb w6 w7 (.slice (some ⟨nb, 0, none⟩) 3 3) (snames name (rules.take 0))) := Lib.hid (by
   rw [← HNB.out]
   have := SgW.three HW7.out
   simpa [snames] using this)
  go_upto_region 11 with fail
  change Code.wp _ _ _ _ (w6.alloc (.cells #[.string (str name), .string (str [99, 111, 108, 111, 114]), .string (str [115, 105, 122, 101])] 9 (0, 0)))
  rw [HW7.out, HNB.out]
  have HDL : Hid (∀ r ∈ rules, r.decls.length ≤ 20 ∧ ∀ d ∈ r.decls, d.name.length ≤ 20) := Lib.hid (fun r hr => ⟨(HLIM.out.rule r hr).1.decls, fun d hd => ((HLIM.out.rule r hr).1.each d hd).1⟩)
  go_upto_block 0 with fail
  go_cut [12] (fun v wx => Hid (SgW nb w6 wx v (snames name rules)))
  case first =>
   go_wp2_with fail
   go_loopw [12, 69] (fun v c wr => ∃ i : Nat, i ≤ rules.length ∧ c = .int .i64 (i : Int) ∧ Hid (SgW nb w6 wr v (snames name (rules.take i)))) (fun _ c _ => rules.length - (intOf c).toNat)
   case atStart => exact ⟨0, by omega, rfl, HS7⟩
   case round =>
    obtain ⟨i, hi, rfl, HS⟩ := hrel
    obtain ⟨wr0, hwr0⟩ : ∃ x, x = wr := ⟨_, rfl⟩
    subst hwr0
    have hnl := snames_len name (rules.take i) (fun r hr => (HDL.out r (List.mem_of_mem_take hr)).1)
    rw [List.length_take] at hnl
    obtain ⟨N, HN⟩ : ∃ x, Hid (snames name (rules.take i) = x) := ⟨_, Lib.hid rfl⟩
    rw [HN.out] at HS hnl
    obtain ⟨ao, ac, rfl⟩ := HS.out.form
    by_cases hlt : i < rules.length
    ·have hx := List.getElem?_eq_getElem hlt
     generalize hgx : rules[i] = r at hx
     clear hgx
     have hnx : Hid (snames name (rules.take (i + 1)) = N ++ rnames r) := Lib.hid (by
      rw [← HN.out]
      simp only [snames]
      rw [flatMap_take rnames hx, List.append_assoc])
     obtain ⟨hd20, hdn⟩ := HDL.out r (List.mem_of_getElem? hx)
     have HDN := Lib.hid hdn
     obtain ⟨rb, ro, u, rfl, hcs, sv, dv, rfl, hss, hds⟩ := NestAt.at HR6.out hx
     obtain ⟨sa, sc, rfl, hsc1, hsc2⟩ := NestAt.form hss
     obtain ⟨da, dc, rfl, hdc1, hdc2⟩ := DeclsAt.form hds
     unfold maxLen at hdc2
     have r0 : wr0.cell? ⟨rb, ro + i * 5, none⟩ = some (.string (str r.media)) := HS.out.kept.cell id (hcs 0 _ rfl)
     have r1 : wr0.cell? ⟨rb, ro + i * 5 + 1, none⟩ = some (.slice sa r.sels.length sc) := HS.out.kept.cell id (hcs 1 _ rfl)
     have r2 : wr0.cell? ⟨rb, ro + i * 5 + 2, none⟩ = some (.slice da r.decls.length dc) := HS.out.kept.cell id (hcs 2 _ rfl)
     have r3 : wr0.cell? ⟨rb, ro + i * 5 + 3, none⟩ = some (.int .i64 r.lo) := HS.out.kept.cell id (hcs 3 _ rfl)
     have r4 : wr0.cell? ⟨rb, ro + i * 5 + 4, none⟩ = some (.int .i64 r.hi) := HS.out.kept.cell id (hcs 4 _ rfl)
     obtain ⟨wz, HWZ⟩ : ∃ z, Hid (wr0.alloc (.cells #[.string (str r.media), .slice sa r.sels.length sc, .slice da r.decls.length dc, .int .i64 r.lo, .int .i64 r.hi] 42 (0, 0)) = z) := ⟨_, Lib.hid rfl⟩
     obtain ⟨zk, HZK⟩ : ∃ z, Hid (wr0.heap.size = z) := ⟨_, Lib.hid rfl⟩
     have hzb : wz.heap[zk]? = some (.cells #[.string (str r.media), .slice sa r.sels.length sc, .slice da r.decls.length dc, .int .i64 r.lo, .int .i64 r.hi] 42 (0, 0)) := by rw [← HWZ.out, ← HZK.out]; exact newIn wr0 _
     have hkz : Kept (fun _ => False) wr0 wz := by rw [← HWZ.out]; exact (Kept.refl _ wr0).alloc _
     have HSZ : Hid (SgW nb w6 wz (.slice ao N.length ac) N) := Lib.hid (HS.out.still hkz)
     have HD6 : Hid (DeclsAt w6 (.slice da r.decls.length dc) r.decls) := Lib.hid hds
     clear hcs hss hds hx hkz hdn
     go_upto_region 14 with fail
     rw [HWZ.out, HZK.out]
     clear r0 r1 r2 r3 r4
     have z2 := cellIn hzb 2 rfl
     clear hzb
     go_wp2_with fail
     clear z2
     go_loopw [12, 76] (fun v c wx => ∃ j : Nat, j ≤ r.decls.length ∧ c = .int .i64 (j : Int) ∧ Hid (SgW nb w6 wx v (N ++ (r.decls.take j).flatMap dnames))) (fun _ c _ => r.decls.length - (intOf c).toNat)
     case atStart => exact ⟨0, by omega, rfl, Lib.hid (by simpa using HSZ.out)⟩
     case round =>
      obtain ⟨j, hj, rfl, HI⟩ := hrel
      obtain ⟨wx0, hwx0⟩ : ∃ x, x = wr := ⟨_, rfl⟩
      subst hwx0
      have hdl := dflat_len r.decls j
      have hml : (N ++ (r.decls.take j).flatMap dnames).length ≤ 4000 := by rw [List.length_append]; omega
      obtain ⟨M, HMN⟩ : ∃ x, Hid (N ++ (r.decls.take j).flatMap dnames = x) := ⟨_, Lib.hid rfl⟩
      rw [HMN.out] at HI hml
      obtain ⟨ia, ic, rfl⟩ := HI.out.form
      by_cases hjl : j < r.decls.length
      ·have hy := List.getElem?_eq_getElem hjl
       generalize hgy : r.decls[j] = d at hy
       clear hgy
       have hdn20 := HDN.out d (List.mem_of_getElem? hy)
       have hnx2 : Hid (N ++ (r.decls.take (j + 1)).flatMap dnames = M ++ dnames d) := Lib.hid (by rw [flatMap_take dnames hy, ← List.append_assoc, HMN.out])
       obtain ⟨xb, xo, rfl, t0, t1, t2⟩ := DeclsAt.at (decls_firm.kept HD6.out HI.out.kept) hy
       obtain ⟨wd, HWD⟩ : ∃ x', Hid (wx0.alloc (.cells #[.string (str d.name), .string (str d.val), .bool d.strong] 59 (0, 0)) = x') := ⟨_, Lib.hid rfl⟩
       obtain ⟨dk, HDK⟩ : ∃ x', Hid (wx0.heap.size = x') := ⟨_, Lib.hid rfl⟩
       have hdb : wd.heap[dk]? = some (.cells #[.string (str d.name), .string (str d.val), .bool d.strong] 59 (0, 0)) := by rw [← HWD.out, ← HDK.out]; exact newIn wx0 _
       have hkd : Kept (fun _ => False) wx0 wd := by rw [← HWD.out]; exact (Kept.refl _ wx0).alloc _
       have hsd := HI.out.still hkd
       have hnb : nb ≤ wd.heap.size := by rw [← HNB.out]; exact hsd.kept.size
       obtain ⟨a', c', w', hrun, hsg, hkp⟩ := hsd.push hnb (dnames d) 3 rfl (by omega) #[.string (str d.name), .string (str (d.name ++ [45, 116, 111, 112])), .string (str (d.name ++ [45, 108, 101, 102, 116]))] rfl (by omega)
       have HRUN := Lib.hid hrun
       have HSG := Lib.hid hsg
       clear hrun hsg hkp hsd hkd hy
       go_upto_region 17 with fail
       rw [HWD.out, HDK.out]
       clear t0 t1 t2
       have x0 := cellIn hdb 0 rfl
       clear hdb
       go_wp2_with (at_builtin; refine wpList_append_eq (by rfl) _ _ _ rfl _ _ _ rfl rfl _ HRUN.out ?_)
       go_roundw
       case measure => simp [intOf]; omega
       case rel => exact ⟨j + 1, by omega, by go_num, Lib.hid (by rw [hnx2.out]; exact HSG.out)⟩
      ·obtain rfl : j = r.decls.length := by omega
       have hfin : Hid (SgW nb w6 wx0 (.slice ia M.length ic) (snames name (rules.take (i + 1)))) := Lib.hid (by
        have := HMN.out
        rw [List.take_length] at this
        rw [hnx.out]
        unfold rnames
        rw [this]; exact HI.out)
       go_wp2_with fail
       go_roundw
       case measure => simp [intOf]; omega
       case rel => exact ⟨i + 1, by omega, by go_num, hfin⟩
    ·obtain rfl : i = rules.length := by omega
     have hfin : Hid (SgW nb w6 wr0 (.slice ao N.length ac) (snames name rules)) := Lib.hid (by
      have := HN.out
      rw [List.take_length] at this
      rw [this]; exact HS.out)
     go_wp2_with fail
     go_meet
     case rel => exact hfin
  case rest =>
   have HS := Lib.hid hcut.out
   obtain ⟨w8, hw8⟩ : ∃ x, x = wc := ⟨_, rfl⟩
   subst hw8
   clear hcut HS7
   have hnl := snames_len name rules (fun r hr => (HDL.out r hr).1)
   obtain ⟨N, HN⟩ : ∃ x, Hid (snames name rules = x) := ⟨_, Lib.hid rfl⟩
   rw [HN.out] at HS hnl
   obtain ⟨ao, ac, rfl⟩ := HS.out.form
   have HK8 := Lib.hid HS.out.kept
   have HN8 : Hid (StrsAt w8 (.slice ao N.length ac) N) := Lib.hid HS.out.reads
   have HSE := Lib.hid (sets_any rules hmost w8 _ (rules_firm.kept HR6.out HK8.out))
   go_wp2_with fail
   refine HSE.out.mono ?_
   rintro e w9 ⟨sv, X, rfl, hk9, hs9⟩
   obtain ⟨sa, sc, rfl, hsc1, hsc2⟩ := hs9.form
   unfold maxLen at hsc2
   obtain ⟨ML, HML⟩ : ∃ x, Hid (gsets (mnames rules) = x) := ⟨_, Lib.hid rfl⟩
   rw [HML.out] at hs9 hsc1 ⊢
   have HS9 := Lib.hid hs9
   have HK9 := Lib.hid (HK8.out.trans hk9)
   have HN9 := Lib.hid (strs_firm.kept HN8.out hk9)
   have HL9 := Lib.hid (nodes_firm.kept HL6.out HK9.out)
   have HR9 := Lib.hid (rules_firm.kept HR6.out HK9.out)
   have HM9 := Lib.hid (nodes_firm.kept HM6.out HK9.out)
   have HQ9 := Lib.hid (rules_firm.kept HQ6.out HK9.out)
   have HMC : Hid (w9.cell? ⟨0, 0, none⟩ = some (.int .i64 m)) := Lib.hid ((HK6.out.trans HK9.out).cell id HM.out)
   have hl120 := HLIM.out.mt.few
   have HV1 : Hid (∀ (wx : World) (u : Value) (media : List B) (k : Nat) (n : B) (V : B), Kept (fun _ => False) w9 wx → StrsAt wx u media → k < l.length → cValue l (k : Int) rules media n = .ok V →
     Calls Tryz.prog 27 #[.slice la l.length lc, .int .i64 (k : Int), .slice ra rules.length rc, u, .string (str n)] wx fun e w' => e = .returned (.tuple #[.string (str V), .int .i64 0]) ∧ Kept (fun _ => False) wx w') := Lib.hid (fun wx u media k n V hk hu hkl hV => by
    have := value_any l rules (HLIM.out.ca (fun r h => h) (Nat.le_refl _)) media n (k : Int) (by omega) m wx _ _ _ (nodes_firm.kept HL9.out hk) (rules_firm.kept HR9.out hk) hu (hk.cell id HMC.out)
    rw [hV] at this
    exact this)
   have HV2 : Hid (∀ (wx : World) (u : Value) (media : List B) (k : Nat) (n : B) (V : B), Kept (fun _ => False) w9 wx → StrsAt wx u media → k < l.length → cValue l (k : Int) rules media n = .ok V →
     Calls Tryz.prog 27 #[.slice ma ms.length mc, .int .i64 (k : Int), .slice qa qs.length qc, u, .string (str n)] wx fun e w' => e = .returned (.tuple #[.string (str V), .int .i64 0]) ∧ Kept (fun _ => False) wx w') := Lib.hid (fun wx u media k n V hk hu hkl hV => by
    have := value_any ms qs ((read_lim (as_read HF.out.dst)).ca (fun r h => h) (Nat.le_refl _)) media n (k : Int) (by omega) m wx _ _ _ (nodes_firm.kept HM9.out hk) (rules_firm.kept HQ9.out hk) hu (hk.cell id HMC.out)
    rw [fold_value HF.out HST.out, hV] at this
    exact this)
   clear hk9 hs9
   go_wp2_with fail
   go_loopw [96] (fun c wr => ∃ i : Nat, i ≤ ML.length ∧ c = .int .i64 (i : Int) ∧ Hid (Kept (fun _ => False) w9 wr)) (fun c _ => ML.length - (intOf c).toNat)
   case atStart => exact ⟨0, by omega, rfl, Lib.hid (Kept.refl _ _)⟩
   case round =>
    obtain ⟨i, hi, rfl, HKR⟩ := hrel
    obtain ⟨wr0, hwr0⟩ : ∃ x, x = wr := ⟨_, rfl⟩
    subst hwr0
    by_cases hlt : i < ML.length
    ·have hx := List.getElem?_eq_getElem hlt
     generalize hgx : ML[i] = md at hx
     clear hgx
     obtain ⟨sb, so, scap, u, hse, s0, hu⟩ := (setsIn_kept HS9.out HKR.out).at hx
     cases hse
     obtain ⟨ua, uc, rfl, huc1, huc2⟩ := StrsAt.form hu
     unfold maxLen at huc2
     have HU := Lib.hid hu
     clear hx hu
     go_wp2_with fail
     clear s0
     go_loopw [102] (fun c wx => ∃ k : Nat, k ≤ l.length ∧ c = .int .i64 (k : Int) ∧ Hid (Kept (fun _ => False) wr0 wx)) (fun c _ => l.length - (intOf c).toNat)
     case atStart => exact ⟨0, by omega, rfl, Lib.hid (Kept.refl _ _)⟩
     case round =>
      obtain ⟨k, hk, rfl, HKX⟩ := hrel
      obtain ⟨wx0, hwx0⟩ : ∃ x, x = wr := ⟨_, rfl⟩
      subst hwx0
      by_cases hkl : k < l.length
      ·go_wp2_with fail
       go_loopw [107] (fun c wy => ∃ j : Nat, j ≤ N.length ∧ c = .int .i64 (j : Int) ∧ Hid (Kept (fun _ => False) wx0 wy)) (fun c _ => N.length - (intOf c).toNat)
       case atStart => exact ⟨0, by omega, rfl, Lib.hid (Kept.refl _ _)⟩
       case round =>
        obtain ⟨j, hj, rfl, HKY⟩ := hrel
        obtain ⟨wy0, hwy0⟩ : ∃ x, x = wr := ⟨_, rfl⟩
        subst hwy0
        by_cases hjl : j < N.length
        ·have hy := List.getElem?_eq_getElem hjl
         generalize hgy : N[j] = n at hy
         clear hgy
         have hkw : Kept (fun _ => False) w9 wy0 := (HKR.out.trans HKX.out).trans HKY.out
         have HKW := Lib.hid hkw
         obtain ⟨nb1, no1, rfl, g0⟩ := StrsAt.at (strs_firm.kept HN9.out hkw) hy
         obtain ⟨V, hV⟩ := HT.out.value md n hkl
         have HC1 := Lib.hid (HV1.out wy0 _ md k n V hkw (strs_firm.kept HU.out (HKX.out.trans HKY.out)) hkl hV)
         have HVV := Lib.hid hV
         clear hkw hy hV
         go_wp2_with fail
         clear g0
         refine HC1.out.mono ?_
         rintro e w10 ⟨rfl, hk10⟩
         have HC2 := Lib.hid (HV2.out w10 _ md k n V (HKW.out.trans hk10) (strs_firm.kept HU.out ((HKX.out.trans HKY.out).trans hk10)) hkl HVV.out)
         have HK10 := Lib.hid (HKY.out.trans hk10)
         clear hk10
         go_wp2_with fail
         refine HC2.out.mono ?_
         rintro e w11 ⟨rfl, hk11⟩
         have HK11 := Lib.hid (HK10.out.trans hk11)
         clear hk11
         go_wp2_with fail
         go_roundw
         case measure => simp [intOf]; omega
         case rel => exact ⟨j + 1, by omega, by go_num, HK11⟩
        ·obtain rfl : j = N.length := by omega
         go_wp2_with fail
         go_roundw
         case measure => simp [intOf]; omega
         case rel => exact ⟨k + 1, by omega, by go_num, Lib.hid (HKX.out.trans HKY.out)⟩
      ·obtain rfl : k = l.length := by omega
       go_wp2_with fail
       go_roundw
       case measure => simp [intOf]; omega
       case rel => exact ⟨i + 1, by omega, by go_num, Lib.hid (HKR.out.trans HKX.out)⟩
    ·obtain rfl : i = ML.length := by omega
     go_wp2_with fail
     go_ret
     exact ⟨rfl, HK6.out.trans (HK9.out.trans HKR.out)⟩
end Go.Proofs.YtplbdlgmjehckacGreatDoor

