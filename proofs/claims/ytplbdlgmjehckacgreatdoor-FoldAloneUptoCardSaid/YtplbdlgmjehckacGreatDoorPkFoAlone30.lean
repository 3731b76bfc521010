/-
 Lemmas for the claims of this seat: the program's functions walked, and plain laws. In this order: FoLawAlone.
-/
import Derived.Test.YtplbdlgmjehckacGreatDoorPk26
import Derived.Test.YtplbdlgmjehckacGreatDoorPk8
import Derived.Test.YtplbdlgmjehckacGreatDoorPk29
namespace Go.Proofs.YtplbdlgmjehckacGreatDoor
open Go.RowKit
set_option linter.unusedVariables false
set_option linter.unusedSimpArgs false
theorem reads_of {s : B} {l : List PNode} {rules : List PRule} {T : PT} (h : ReadAs s l rules T) (m : Int) (w : World) (hm : w.cell? ⟨0, 0, none⟩ = some (.int .i64 m)) :
  Calls Tryz.prog 13 #[.string (str s)] w fun e w' => ∃ lv rv, e = .returned (.tuple #[lv, rv, .agg #[.int .i64 0, .int .i64 0]]) ∧ Kept (fun _ => False) w w' ∧ NodesAt w' lv l ∧ RulesAt w' rv rules := by
 have := read_any s m w hm (by have := h.len; omega)
 rw [as_read h] at this
 exact this
theorem rTouch_iff {m : List PNode} {k : Nat} {r : PRule} {n : B} (hk : k < m.length) : rTouch m (k : Int) r n = true ↔ (k, n) ∈ touches m r := by
 rw [mem_touches]
 unfold rTouch plainOf
 rw [Bool.and_eq_true, List.any_eq_true]
 constructor
 ·rintro ⟨h1, d, hd, he⟩
  exact ⟨hk, h1, d, hd, by simpa using he⟩
 ·rintro ⟨_, h1, d, hd, he⟩
  exact ⟨h1, d, hd, by simpa using he⟩
theorem rules_nil (w : World) : RulesAt w (.slice none 0 0) [] := ⟨[], rfl, RowsAt.nil _ _, fun i x u hx => by simp at hx⟩
theorem strs_nil (w : World) : StrsAt w (.slice none 0 0) [] := RowsAt.nil _ _
theorem alone_end {s t : B} {l m : List PNode} {rules qs : List PRule} {st : List Bool} {T : PT} (F : FoldAs s t l m rules qs st T) (S : IsStays l rules st) {k : Nat} {look own : List PDecl} (hk : k < l.length) (hl : cDeclared l (k : Int) rules [] = .ok look) (ho : cDeclared m (k : Int) [] [] = .ok own)
  {d : PDecl} (hd : d ∈ look) (hf : (qs.any fun r => rTouch m (k : Int) r d.name) = false) : own.contains d = true := by
 have hk' : k < m.length := by rw [← F.rel.len]; exact hk
 obtain ⟨o, h1, h2⟩ := fold_alone F S (List.getElem?_eq_getElem hk) (List.getElem?_eq_getElem hk') hl hd (fun r hr ht => by
  rw [List.any_eq_false] at hf
  exact hf r hr ((rTouch_iff hk').2 ht))
 rw [ho] at h1
 cases h1
 simpa using h2
theorem ne_fields {c d : PDecl} (h : (c == d) = false) : (c.name == d.name) = false ∨ ((c.name == d.name) = true ∧ (c.val == d.val) = false) ∨ ((c.name == d.name) = true ∧ (c.val == d.val) = true ∧ (c.strong == d.strong) = false) := by
 obtain ⟨cn, cv, cs⟩ := c
 obtain ⟨dn, dv, ds⟩ := d
 simp only [beq_eq_false_iff_ne, beq_iff_eq, ne_eq, PDecl.mk.injEq] at h ⊢
 by_cases h1 : cn = dn
 ·by_cases h2 : cv = dv
  ·by_cases h3 : cs = ds
   ·exact absurd ⟨h1, h2, h3⟩ h
   ·exact .inr (.inr ⟨h1, h2, h3⟩)
  ·exact .inr (.inl ⟨h1, h2⟩)
 ·exact .inl h1
theorem contains_take {own : List PDecl} {j : Nat} {c d : PDecl} (h : own[j]? = some c) : (own.take (j + 1)).contains d = ((own.take j).contains d || (c == d)) := by
 rw [List.take_add_one, h, Option.toList_some, Bool.eq_iff_iff]
 simp only [Bool.or_eq_true, List.contains_iff_mem, List.mem_append, List.mem_singleton, beq_iff_eq]
 exact ⟨fun h => h.imp id Eq.symm, fun h => h.imp id Eq.symm⟩
theorem any_take {α : Type} {qs : List α} {p : α → Bool} {j : Nat} {r : α} (h : qs[j]? = some r) : (qs.take (j + 1)).any p = ((qs.take j).any p || p r) := by
 rw [List.take_add_one, h, Option.toList_some, List.any_append]; simp
set_option maxRecDepth 100000 in
set_option maxHeartbeats 3200000 in
theorem foldAlone_any (s : B) (m : Int) (w : World) (hm : w.cell? ⟨0, 0, none⟩ = some (.int .i64 m)) (hs : s.length ≤ 9223372036854775807) :
  Calls Tryz.prog 7 #[.string (str s)] w fun e w' => e = .returned (.bool true) ∧ Kept (fun _ => False) w w' := by
 have HA := Lib.hid (alive6_any w m hm)
 have HM := Lib.hid hm
 clear hm
 go_enter Tryz.func7, Tryz.ntmps7
 go_wp2_with (go_at_call 21; refine HA.out.mono ?_; rintro e w1 ⟨rfl, hk1⟩)
 refine (fold_ways s m w1 (hk1.cell id HM.out) hs).mono ?_
 rintro e w2 ⟨hk2, h⟩
 have HK2 := Lib.hid (hk1.trans hk2)
 rcases h with ⟨a, p, rfl, hne⟩ | ⟨l, rules, st, t, T, rfl, hT, hst, hf⟩
 ·have hneI : ((a : Int) != 0) = true := by simp; omega
  clear hne hk1 hk2
  obtain ⟨wb, HWB⟩ : ∃ x, Hid (w2.alloc (.cells #[.int .i64 (a : Int), .int .i64 (p : Int)] 26 (0, 0)) = x) := ⟨_, rfl⟩
  have c0 : wb.cell? ⟨w2.heap.size, 0, none⟩ = some (.int .i64 (a : Int)) := by rw [← HWB.out]; exact cellIn (newIn w2 _) 0 rfl
  have HKB : Hid (Kept (fun _ => False) w wb) := Lib.hid (by rw [← HWB.out]; exact HK2.out.alloc _)
  go_upto_region 4 with fail
  rw [HWB.out]
  go_wp2_with fail
  go_ret
  exact ⟨rfl, HKB.out⟩
 ·obtain ⟨ms, qs, F⟩ := fold_reads hT hst.len hf
  have HT := Lib.hid hT
  have HST := Lib.hid hst
  have HF := Lib.hid F
  have hmost := hT.most
  have hmost2 := F.dst.most
  have htl := F.dst.len
  have HLEN := Lib.hid F.rel.len
  have hne : ((l.length : Int) != (ms.length : Int)) = false := by rw [HLEN.out]; simp
  have hstl := hst.len
  obtain ⟨wb, HWB⟩ : ∃ x, Hid (w2.alloc (.cells #[.int .i64 0, .int .i64 0] 26 (0, 0)) = x) := ⟨_, rfl⟩
  have c0 : wb.cell? ⟨w2.heap.size, 0, none⟩ = some (.int .i64 0) := by rw [← HWB.out]; exact cellIn (newIn w2 _) 0 rfl
  have HKB : Hid (Kept (fun _ => False) w wb) := Lib.hid (by rw [← HWB.out]; exact HK2.out.alloc _)
  clear hk1 hk2 hT hst hf F
  go_upto_region 4 with fail
  rw [HWB.out]
  go_wp2_with fail
  refine (reads_of HT.out m wb (HKB.out.cell id HM.out)).mono ?_
  rintro e w3 ⟨lv, rv, rfl, hk3, hl3, hr3⟩
  obtain ⟨la, lc, rfl, hlc1, hlc2⟩ := hl3.form
  obtain ⟨ra, rc, rfl, hrc1, hrc2⟩ := NestAt.form hr3
  unfold maxLen at hlc2 hrc2
  obtain ⟨w4, HW4⟩ : ∃ x, Hid (w3.alloc (.cells #[.int .i64 0, .int .i64 0] 26 (0, 0)) = x) := ⟨_, rfl⟩
  have hk4 : Kept (fun _ => False) w3 w4 := by rw [← HW4.out]; exact (Kept.refl _ w3).alloc _
  have HL4 := Lib.hid (nodes_firm.kept hl3 hk4)
  have HR4 := Lib.hid (rules_firm.kept hr3 hk4)
  have HK4 := Lib.hid ((HKB.out.trans hk3).trans hk4)
  clear hk3 hl3 hr3 hk4 c0
  go_upto_region 7 with fail
  rw [HW4.out]
  go_wp2_with fail
  refine (reads_of HF.out.dst m w4 (HK4.out.cell id HM.out)).mono ?_
  rintro e w5 ⟨mv, qv, rfl, hk5, hm5, hq5⟩
  obtain ⟨ma, mc, rfl, hmc1, hmc2⟩ := hm5.form
  obtain ⟨qa, qc, rfl, hqc1, hqc2⟩ := NestAt.form hq5
  unfold maxLen at hmc2 hqc2
  obtain ⟨w6, HW6⟩ : ∃ x, Hid (w5.alloc (.cells #[.int .i64 0, .int .i64 0] 26 (0, 0)) = x) := ⟨_, rfl⟩
  have hk6 : Kept (fun _ => False) w5 w6 := by rw [← HW6.out]; exact (Kept.refl _ w5).alloc _
  have c0 : w6.cell? ⟨w5.heap.size, 0, none⟩ = some (.int .i64 0) := by rw [← HW6.out]; exact cellIn (newIn w5 _) 0 rfl
  have HL6 := Lib.hid (nodes_firm.kept HL4.out (hk5.trans hk6))
  have HR6 := Lib.hid (rules_firm.kept HR4.out (hk5.trans hk6))
  have HQ6 := Lib.hid (rules_firm.kept hq5 hk6)
  have HM6 := Lib.hid (nodes_firm.kept hm5 hk6)
  have HK6 := Lib.hid ((HK4.out.trans hk5).trans hk6)
  clear hk5 hm5 hq5 hk6
  go_upto_region 8 with fail
  rw [HW6.out]
  go_wp2_with fail
  go_loopw [58] (fun c wr => ∃ k : Nat, k ≤ l.length ∧ c = .int .i64 (k : Int) ∧ Hid (Kept (fun _ => False) w6 wr)) (fun c _ => l.length - (intOf c).toNat)
  case atStart => exact ⟨0, by omega, rfl, Lib.hid (Kept.refl _ _)⟩
  case round =>
   obtain ⟨k, hk, rfl, HK⟩ := hrel
   obtain ⟨wr0, hwr0⟩ : ∃ x, x = wr := ⟨_, rfl⟩
   subst hwr0
   by_cases hlt : k < l.length
   ·have hltm : k < ms.length := by rw [← HLEN.out]; exact hlt
    obtain ⟨look, hlook⟩ := HT.out.declared [] hlt
    obtain ⟨own, hown⟩ := HF.out.dst.bare [] hltm
    have HLK := Lib.hid hlook
    have HOW := Lib.hid hown
    have hl120 := (read_lim (as_read HT.out)).mt.few
    have HC1 : Hid (Calls Tryz.prog 22 #[.slice la l.length lc, .int .i64 (k : Int), .slice ra rules.length rc, .slice none 0 0] wr0 (DcEnds wr0 (.ok look))) := Lib.hid (by
     rw [← hlook]
     exact declared_any l rules ((read_lim (as_read HT.out)).ca (fun r h => h) (Nat.le_refl _)) [] (k : Int) (by omega) m wr0 _ _ _ (nodes_firm.kept HL6.out HK.out) (rules_firm.kept HR6.out HK.out) (strs_nil _) ((HK6.out.trans HK.out).cell id HM.out))
    clear hlook hown
    go_wp2_with fail
    refine HC1.out.mono ?_
    rintro e w7 ⟨xv, rfl, hk7, hx7, hxl⟩
    obtain ⟨xa, xc, rfl, hxc1, hxc2⟩ := DeclsAt.form hx7
    unfold maxLen at hxc2
    have HK7 := Lib.hid (HK.out.trans hk7)
    have HX7 := Lib.hid hx7
    have HC2 : Hid (Calls Tryz.prog 22 #[.slice ma ms.length mc, .int .i64 (k : Int), .slice none 0 0, .slice none 0 0] w7 (DcEnds w7 (.ok own))) := Lib.hid (by
     rw [← HOW.out]
     exact declared_any ms [] ((read_lim (as_read HF.out.dst)).ca (fun r h => by cases h) (Nat.zero_le _)) [] (k : Int) (by omega) m w7 _ _ _ (nodes_firm.kept HM6.out HK7.out) (rules_nil _) (strs_nil _) ((HK6.out.trans HK7.out).cell id HM.out))
    clear hk7 hx7
    go_wp2_with fail
    refine HC2.out.mono ?_
    rintro e w8 ⟨yv, rfl, hk8, hy8, hyl⟩
    obtain ⟨ya, yc, rfl, hyc1, hyc2⟩ := DeclsAt.form hy8
    unfold maxLen at hyc2
    have HK8 := Lib.hid (HK7.out.trans hk8)
    have HX8 := Lib.hid (decls_firm.kept HX7.out hk8)
    have HY8 := Lib.hid hy8
    clear hk8 hy8 c0
    go_wp2_with fail
    go_loopw [82] (fun c wx => ∃ i : Nat, i ≤ look.length ∧ c = .int .i64 (i : Int) ∧ Hid (Kept (fun _ => False) w8 wx)) (fun c _ => look.length - (intOf c).toNat)
    case atStart => exact ⟨0, by omega, rfl, Lib.hid (Kept.refl _ _)⟩
    case round =>
     obtain ⟨i, hi, rfl, HKX⟩ := hrel
     obtain ⟨wx0, hwx0⟩ : ∃ x, x = wr := ⟨_, rfl⟩
     subst hwx0
     by_cases hlt2 : i < look.length
     ·have hd := List.getElem?_eq_getElem hlt2
      generalize hgd : look[i] = d at hd
      clear hgd
      have HDM := Lib.hid (List.mem_of_getElem? hd)
      obtain ⟨xb, xo, rfl, g0, g1, g2⟩ := DeclsAt.at (decls_firm.kept HX8.out HKX.out) hd
      clear hd
      obtain ⟨db, HDB⟩ : ∃ x, Hid (wx0.heap.size = x) := ⟨_, Lib.hid rfl⟩
      obtain ⟨w9, HW9⟩ : ∃ x, Hid (wx0.alloc (.cells #[.string (str d.name), .string (str d.val), .bool d.strong] 53 (0, 0)) = x) := ⟨_, Lib.hid rfl⟩
      have hb9 : w9.heap[db]? = some (.cells #[.string (str d.name), .string (str d.val), .bool d.strong] 53 (0, 0)) := by rw [← HW9.out, ← HDB.out]; exact newIn wx0 _
      have HB9 := Lib.hid hb9
      have HK9 : Hid (Kept (fun _ => False) w8 w9) := Lib.hid (by rw [← HW9.out]; exact HKX.out.alloc _)
      clear hb9
      go_upto_region 20 with fail
      rw [HW9.out, HDB.out]
      clear g0 g1 g2
      go_wp2_with fail
      go_loopw [18, 88] (fun tv c wy => ∃ (j : Nat) (b : Bool), j ≤ own.length ∧ c = .int .i64 (j : Int) ∧ tv = .bool b ∧ Hid ((own.take j).contains d = b) ∧ Hid (Kept (fun _ => False) w9 wy)) (fun _ c _ => own.length - (intOf c).toNat)
      case atStart => exact ⟨0, false, by omega, rfl, rfl, Lib.hid rfl, Lib.hid (Kept.refl _ _)⟩
      case round =>
       obtain ⟨j, b, hj, rfl, rfl, HB, HKY⟩ := hrel
       obtain ⟨wy0, hwy0⟩ : ∃ x, x = wr := ⟨_, rfl⟩
       subst hwy0
       by_cases hlt3 : j < own.length
       ·have hc := List.getElem?_eq_getElem hlt3
        generalize hgc : own[j] = c at hc
        clear hgc
        have hnx : Hid ((own.take (j + 1)).contains d = (b || (c == d))) := Lib.hid (by rw [contains_take hc, HB.out])
        obtain ⟨yb, yo, rfl, g0, g1, g2⟩ := DeclsAt.at (decls_firm.kept HY8.out (HK9.out.trans HKY.out)) hc
        clear hc
        go_upto_region 24 with fail
        obtain ⟨wv, HWV⟩ : ∃ z, Hid (wy0.alloc (.cells #[.string (str c.name), .string (str c.val), .bool c.strong] 53 (0, 0)) = z) := ⟨_, Lib.hid rfl⟩
        have hkv : Kept (fun _ => False) w9 wv := by rw [← HWV.out]; exact HKY.out.alloc _
        have hv : wv.heap[wy0.heap.size]? = some (.cells #[.string (str c.name), .string (str c.val), .bool c.strong] 53 (0, 0)) := by rw [← HWV.out]; exact newIn wy0 _
        have v0 := cellIn hv 0 rfl
        have v1 := cellIn hv 1 rfl
        have v2 := cellIn hv 2 rfl
        have d0 := cellIn (hkv.heap id HB9.out) 0 rfl
        have d1 := cellIn (hkv.heap id HB9.out) 1 rfl
        have d2 := cellIn (hkv.heap id HB9.out) 2 rfl
        have HKV := Lib.hid hkv
        rw [HWV.out]
        clear g0 g1 g2 hv hkv
        cases b with
        | true =>
         have hn2 : Hid ((own.take (j + 1)).contains d = true) := Lib.hid (by rw [hnx.out]; rfl)
         go_wp2_with fail
         go_roundw
         case measure => simp [intOf]; omega
         case rel => exact ⟨j + 1, true, by omega, by go_num, rfl, hn2, HKV⟩
        | false =>
         cases hcd : (c == d) with
         | true =>
          have hn2 : Hid ((own.take (j + 1)).contains d = true) := Lib.hid (by rw [hnx.out, hcd]; rfl)
          have hce : c = d := by simpa using hcd
          subst hce
          go_wp2_with fail
          go_roundw
          case measure => simp [intOf]; omega
          case rel => exact ⟨j + 1, true, by omega, by go_num, rfl, hn2, HKV⟩
         | false =>
          have hn2 : Hid ((own.take (j + 1)).contains d = false) := Lib.hid (by rw [hnx.out, hcd]; rfl)
          have hnf := ne_fields hcd
          clear hcd
          rcases hnf with q1 | ⟨q1, q2⟩ | ⟨q1, q2, q3⟩
          all_goals
           go_wp2_with fail
           go_roundw
           case measure => simp [intOf]; omega
           case rel => exact ⟨j + 1, false, by omega, by go_num, rfl, hn2, HKV⟩
       ·obtain rfl : j = own.length := by omega
        have hbb := HB.out
        rw [List.take_length] at hbb
        have HBB := Lib.hid hbb
        have hcq : CaCtx ms qs := (read_lim (as_read HF.out.dst)).ca (fun r h => h) (Nat.le_refl _)
        have HCQ := Lib.hid hcq
        have hmt := (read_lim (as_read HF.out.dst)).mt
        have HMT := Lib.hid hmt
        have HKY0 : Hid (Kept (fun _ => False) w8 wy0) := Lib.hid (HK9.out.trans HKY.out)
        clear hbb hcq hmt
        go_wp2_with fail
        go_loopw [19, 101] (fun fv c wz => ∃ (jj : Nat) (f : Bool), jj ≤ qs.length ∧ c = .int .i64 (jj : Int) ∧ fv = .bool f ∧ Hid ((!((qs.take jj).any fun r => rTouch ms (k : Int) r d.name)) = f) ∧ Hid (Kept (fun _ => False) wy0 wz)) (fun _ c _ => qs.length - (intOf c).toNat)
        case atStart => exact ⟨0, true, by omega, rfl, rfl, Lib.hid rfl, Lib.hid (Kept.refl _ _)⟩
        case round =>
         obtain ⟨jj, f, hjj, rfl, rfl, HFR, HKZ⟩ := hrel
         obtain ⟨wz0, hwz0⟩ : ∃ x, x = wr := ⟨_, rfl⟩
         subst hwz0
         by_cases hlt4 : jj < qs.length
         ·have hr := List.getElem?_eq_getElem hlt4
          generalize hgr : qs[jj] = r at hr
          clear hgr
          have hnx : Hid ((!((qs.take (jj + 1)).any fun r => rTouch ms (k : Int) r d.name)) = (f && !rTouch ms (k : Int) r d.name)) := Lib.hid (by rw [any_take hr, Bool.not_or, HFR.out])
          have hrm := List.mem_of_getElem? hr
          have HKW : Hid (Kept (fun _ => False) w6 wz0) := Lib.hid ((HK8.out.trans HKY0.out).trans HKZ.out)
          obtain ⟨rb, ro, u, rfl, hcs, sv, dv, rfl, hss, hds⟩ := NestAt.at (rules_firm.kept HQ6.out HKW.out) hr
          obtain ⟨sa, sc, rfl, hsc1, hsc2⟩ := NestAt.form hss
          obtain ⟨da, dc, rfl, hdc1, hdc2⟩ := DeclsAt.form hds
          have r0 : wz0.cell? ⟨rb, ro + jj * 5, none⟩ = some (.string (str r.media)) := hcs 0 _ rfl
          have r1 : wz0.cell? ⟨rb, ro + jj * 5 + 1, none⟩ = some (.slice sa r.sels.length sc) := hcs 1 _ rfl
          have r2 : wz0.cell? ⟨rb, ro + jj * 5 + 2, none⟩ = some (.slice da r.decls.length dc) := hcs 2 _ rfl
          have r3 : wz0.cell? ⟨rb, ro + jj * 5 + 3, none⟩ = some (.int .i64 r.lo) := hcs 3 _ rfl
          have r4 : wz0.cell? ⟨rb, ro + jj * 5 + 4, none⟩ = some (.int .i64 r.hi) := hcs 4 _ rfl
          obtain ⟨wv, HWV⟩ : ∃ z, Hid (wz0.alloc (.cells #[.string (str r.media), .slice sa r.sels.length sc, .slice da r.decls.length dc, .int .i64 r.lo, .int .i64 r.hi] 42 (0, 0)) = z) := ⟨_, Lib.hid rfl⟩
          have hkv : Kept (fun _ => False) wz0 wv := by rw [← HWV.out]; exact (Kept.refl _ wz0).alloc _
          have hv : wv.heap[wz0.heap.size]? = some (.cells #[.string (str r.media), .slice sa r.sels.length sc, .slice da r.decls.length dc, .int .i64 r.lo, .int .i64 r.hi] 42 (0, 0)) := by rw [← HWV.out]; exact newIn wz0 _
          have v0 := cellIn hv 0 rfl
          have v1 := cellIn hv 1 rfl
          have v2 := cellIn hv 2 rfl
          have v3 := cellIn hv 3 rfl
          have v4 := cellIn hv 4 rfl
          have d0 := cellIn (((HKY.out.trans HKZ.out).trans hkv).heap id HB9.out) 0 rfl
          have HKV : Hid (Kept (fun _ => False) wy0 wv) := Lib.hid (HKZ.out.trans hkv)
          obtain ⟨tb, HTB⟩ : ∃ x, Hid (rTouch ms (k : Int) r d.name = x) := ⟨_, Lib.hid rfl⟩
          have HCT : Hid (Calls Tryz.prog 23 #[.slice ma ms.length mc, .int .i64 (k : Int), .agg #[.string (str r.media), .slice sa r.sels.length sc, .slice da r.decls.length dc, .int .i64 r.lo, .int .i64 r.hi], .string (str d.name)] wv fun e w' => e = .returned (.bool tb) ∧ Kept (fun _ => False) wv w') := Lib.hid (by
           rw [← HTB.out]
           exact rtouch_any ms HMT.out r (.tuple #[.slice sa r.sels.length sc, .slice da r.decls.length dc]) m d.name wv _ (k : Int) (nodes_firm.kept HM6.out (HKW.out.trans hkv)) ⟨_, _, rfl, sels_firm.kept hss hkv, decls_firm.kept hds hkv⟩ (HCQ.out.tests r hrm) (by omega) ((HK6.out.trans (HKW.out.trans hkv)).cell id HM.out) (by have := HCQ.out.each r hrm; omega) (HCQ.out.vals r hrm))
          have hnx2 : Hid ((!((qs.take (jj + 1)).any fun r => rTouch ms (k : Int) r d.name)) = (f && !tb)) := Lib.hid (by rw [hnx.out, HTB.out])
          clear hcs hss hds hr hrm hkv hv hsc1 hsc2 hdc1 hdc2
          go_upto_region 29 with fail
          rw [HWV.out]
          clear r0 r1 r2 r3 r4
          cases f with
          | false =>
           have hn3 : Hid ((!((qs.take (jj + 1)).any fun r => rTouch ms (k : Int) r d.name)) = false) := Lib.hid (by rw [hnx2.out]; rfl)
           go_wp2_with fail
           go_roundw
           case measure => simp [intOf]; omega
           case rel => exact ⟨jj + 1, false, by omega, by go_num, rfl, hn3, HKV⟩
          | true =>
           go_wp2_with fail
           refine HCT.out.mono ?_
           rintro e w10 ⟨rfl, hk10⟩
           have HKV2 : Hid (Kept (fun _ => False) wy0 w10) := Lib.hid (HKV.out.trans hk10)
           have hn3 : Hid ((!((qs.take (jj + 1)).any fun r => rTouch ms (k : Int) r d.name)) = !tb) := Lib.hid (by rw [hnx2.out]; rfl)
           clear hk10
           go_wp2_with fail
           go_roundw
           case measure => simp [intOf]; omega
           case rel => exact ⟨jj + 1, !tb, by omega, by go_num, rfl, hn3, HKV2⟩
         ·obtain rfl : jj = qs.length := by omega
          have HKF : Hid (Kept (fun _ => False) w8 wz0) := Lib.hid (HKY0.out.trans HKZ.out)
          have hff := HFR.out
          rw [List.take_length] at hff
          cases f with
          | false =>
           clear hff
           go_wp2_with fail
           go_roundw
           case measure => simp [intOf]; omega
           case rel => exact ⟨i + 1, by omega, by go_num, HKF⟩
          | true =>
           have hb : b = true := by rw [← HBB.out]; exact alone_end HF.out HST.out hlt HLK.out HOW.out HDM.out (by simpa using hff)
           subst hb
           clear hff
           go_wp2_with fail
           go_roundw
           case measure => simp [intOf]; omega
           case rel => exact ⟨i + 1, by omega, by go_num, HKF⟩
     ·obtain rfl : i = look.length := by omega
      go_wp2_with fail
      go_roundw
      case measure => simp [intOf]; omega
      case rel => exact ⟨k + 1, by omega, by go_num, Lib.hid (HK8.out.trans HKX.out)⟩
   ·obtain rfl : k = l.length := by omega
    go_wp2_with fail
    go_ret
    exact ⟨rfl, HK6.out.trans HK.out⟩
end Go.Proofs.YtplbdlgmjehckacGreatDoor

