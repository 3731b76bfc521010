/-
 Lemmas for the claims of this seat: the program's functions walked, and plain laws. In this order: SameD ShSame FoLawGone.
-/
import Derived.Test.YtplbdlgmjehckacGreatDoorPk13
import Derived.Test.YtplbdlgmjehckacGreatDoorPk9
import Derived.Deep.Light
import Derived.Test.YtplbdlgmjehckacGreatDoorPk16
import Derived.Test.YtplbdlgmjehckacGreatDoorPk26
import Derived.Test.YtplbdlgmjehckacGreatDoorPkFoGoneFull27
namespace Go.Proofs.YtplbdlgmjehckacGreatDoor
open Go.RowKit
set_option linter.unusedVariables false
set_option linter.unusedSimpArgs false
set_option maxRecDepth 100000 in
set_option maxHeartbeats 1600000 in
theorem sameDecls_any (w : World) (va vb : Value) (ds : List PDecl) (ha : DeclsAt w va ds) (hb : DeclsAt w vb ds) :
  Calls Tryz.prog 38 #[va, vb] w fun e w' => e = .returned (.bool true) ∧ Qt w w' := by
 obtain ⟨aa, ca, rfl, hca1, hca2⟩ := ha.form
 obtain ⟨ab, cb, rfl, hcb1, hcb2⟩ := hb.form
 unfold maxLen at hca2 hcb2
 have HA := Lib.hid ha
 have HB := Lib.hid hb
 clear ha hb
 go_enter Tryz.func38, Tryz.ntmps38
 go_wp2
 go_loopw [13] (fun i wr => ∃ k : Nat, k ≤ ds.length ∧ i = .int .i64 k ∧ Hid (Qt w wr)) (fun i _ => ds.length - (intOf i).toNat)
 case atStart => exact ⟨0, by omega, rfl, Qt.refl _⟩
 case round =>
  obtain ⟨i, hi, rfl, HQ⟩ := hrel
  by_cases hlt : i < ds.length
  ·have hx := List.getElem?_eq_getElem hlt
   generalize hgx : ds[i] = x at hx
   clear hgx
   obtain ⟨b, off, rfl, g0, g1, g2⟩ := DeclsAt.at (decls_firm.quiet HA.out HQ.out) hx
   obtain ⟨b2, off2, rfl, r0, r1, r2⟩ := DeclsAt.at (decls_firm.quiet HB.out HQ.out) hx
   clear hx
   go_wp2_with fail
   go_quiet (fail)
   go_wp2_with fail
   go_roundw
   case rel => exact ⟨i + 1, by omega, by go_num, Qt.trans HQ.out ⟨nq, rfl⟩⟩
   case measure => simp [intOf]; omega
  ·go_wp2
   go_ret
   exact ⟨rfl, HQ.out⟩
set_option maxRecDepth 100000 in
set_option maxHeartbeats 1600000 in
theorem sameSel_any (w : World) (va vb : Value) (ps : List PPart) (ha : PartsAt w va ps) (hb : PartsAt w vb ps) :
  Calls Tryz.prog 39 #[va, vb] w fun e w' => e = .returned (.bool true) ∧ Qt w w' := by
 obtain ⟨aa, ca, rfl, hca1, hca2⟩ := NestAt.form ha
 obtain ⟨ab, cb, rfl, hcb1, hcb2⟩ := NestAt.form hb
 unfold maxLen at hca2 hcb2
 have HA := Lib.hid ha
 have HB := Lib.hid hb
 clear ha hb
 go_enter Tryz.func39, Tryz.ntmps39
 go_wp2
 go_loopw [14] (fun i wr => ∃ k : Nat, k ≤ ps.length ∧ i = .int .i64 k ∧ Hid (Qt w wr)) (fun i _ => ps.length - (intOf i).toNat)
 case atStart => exact ⟨0, by omega, rfl, Qt.refl _⟩
 case round =>
  obtain ⟨i, hi, rfl, HQ⟩ := hrel
  obtain ⟨wr0, hwr0⟩ : ∃ x, x = wr := ⟨_, rfl⟩
  subst hwr0
  by_cases hlt : i < ps.length
  ·have hx := List.getElem?_eq_getElem hlt
   generalize hgx : ps[i] = x at hx
   clear hgx
   obtain ⟨b, off, u, rfl, hc, hu⟩ := NestAt.at (parts_firm.quiet HA.out HQ.out) hx
   obtain ⟨b2, off2, u2, rfl, hc2, hu2⟩ := NestAt.at (parts_firm.quiet HB.out HQ.out) hx
   have g0 : wr0.cell? ⟨b, off + i * 2, none⟩ = some (.int .i64 x.join) := hc 0 _ rfl
   have g1 : wr0.cell? ⟨b, off + i * 2 + 1, none⟩ = some u := hc 1 _ rfl
   have r0 : wr0.cell? ⟨b2, off2 + i * 2, none⟩ = some (.int .i64 x.join) := hc2 0 _ rfl
   have r1 : wr0.cell? ⟨b2, off2 + i * 2 + 1, none⟩ = some u2 := hc2 1 _ rfl
   obtain ⟨a5, cap5, rfl, hle5, hcap5⟩ := TestsAt.form hu
   obtain ⟨a6, cap6, rfl, hle6, hcap6⟩ := TestsAt.form hu2
   unfold maxLen at hcap5 hcap6
   have HT := Lib.hid hu
   have HT2 := Lib.hid hu2
   clear hx hu hu2 hc hc2
   go_wp2_with fail
   go_quiet (fail)
   go_wp2_with fail
   go_loopw [49] (fun j wx => ∃ l : Nat, l ≤ x.tests.length ∧ j = .int .i64 l ∧ Hid (Qt wr0 wx)) (fun j _ => x.tests.length - (intOf j).toNat)
   case atStart => exact ⟨0, by omega, rfl, ⟨nq, rfl⟩⟩
   case round =>
    obtain ⟨l, hl, rfl, HQ2⟩ := hrel
    by_cases hlt2 : l < x.tests.length
    ·have hy := List.getElem?_eq_getElem hlt2
     generalize hgy : x.tests[l] = y at hy
     clear hgy
     obtain ⟨b3, off3, rfl, hp⟩ := RowsAt.at (tests_firm.quiet HT.out HQ2.out) (k := l) (r := testCells y) (by simp [hy])
     obtain ⟨b4, off4, rfl, hq⟩ := RowsAt.at (tests_firm.quiet HT2.out HQ2.out) (k := l) (r := testCells y) (by simp [hy])
     have p0 : wr.cell? ⟨b3, off3 + l * 3, none⟩ = some _ := hp 0 _ rfl
     have p1 : wr.cell? ⟨b3, off3 + l * 3 + 1, none⟩ = some _ := hp 1 _ rfl
     have p2 : wr.cell? ⟨b3, off3 + l * 3 + 2, none⟩ = some _ := hp 2 _ rfl
     have q0 : wr.cell? ⟨b4, off4 + l * 3, none⟩ = some _ := hq 0 _ rfl
     have q1 : wr.cell? ⟨b4, off4 + l * 3 + 1, none⟩ = some _ := hq 1 _ rfl
     have q2 : wr.cell? ⟨b4, off4 + l * 3 + 2, none⟩ = some _ := hq 2 _ rfl
     obtain ⟨nn, hnn⟩ := HQ2.out
     have g2' : wr.cell? ⟨b, off + i * 2 + 1, none⟩ = some (.slice (some ⟨b3, off3, none⟩) x.tests.length cap5) := by rw [hnn]; exact g1
     have r2' : wr.cell? ⟨b2, off2 + i * 2 + 1, none⟩ = some (.slice (some ⟨b4, off4, none⟩) x.tests.length cap6) := by rw [hnn]; exact r1
     clear hy g0 r0 g1 r1 hnn hp hq
     go_wp2_with fail
     go_quiet (fail)
     go_wp2_with fail
     go_roundw
     case rel => exact ⟨l + 1, by omega, by go_num, Qt.trans HQ2.out ⟨nq, rfl⟩⟩
     case measure => simp [intOf]; omega
    ·go_wp2_with fail
     go_roundw
     case rel => exact ⟨i + 1, by omega, by go_num, Qt.trans HQ.out HQ2.out⟩
     case measure => simp [intOf]; omega
  ·go_wp2
   go_ret
   exact ⟨rfl, HQ.out⟩
set_option maxRecDepth 100000 in
set_option maxHeartbeats 1600000 in
theorem sameRules_any (w : World) (va vb : Value) (rs : List PRule) (ha : RulesAt w va rs) (hb : RulesAt w vb rs) :
  Calls Tryz.prog 16 #[va, vb] w fun e w' => e = .returned (.bool true) ∧ Qt w w' := by
 obtain ⟨aa, ca, rfl, hca1, hca2⟩ := NestAt.form ha
 obtain ⟨ab, cb, rfl, hcb1, hcb2⟩ := NestAt.form hb
 unfold maxLen at hca2 hcb2
 have HA := Lib.hid ha
 have HB := Lib.hid hb
 clear ha hb
 go_enter Tryz.func16, Tryz.ntmps16
 go_wp2
 go_loopw [14] (fun i wr => ∃ k : Nat, k ≤ rs.length ∧ i = .int .i64 k ∧ Hid (Qt w wr)) (fun i _ => rs.length - (intOf i).toNat)
 case atStart => exact ⟨0, by omega, rfl, Qt.refl _⟩
 case round =>
  obtain ⟨i, hi, rfl, HQ⟩ := hrel
  obtain ⟨wr0, hwr0⟩ : ∃ x, x = wr := ⟨_, rfl⟩
  subst hwr0
  by_cases hlt : i < rs.length
  ·have hx := List.getElem?_eq_getElem hlt
   generalize hgx : rs[i] = x at hx
   clear hgx
   obtain ⟨b, off, u, rfl, hc, sv, dv, rfl, hs1, hd1⟩ := NestAt.at (rules_firm.quiet HA.out HQ.out) hx
   obtain ⟨b2, off2, u2, rfl, hc2, sv2, dv2, rfl, hs2, hd2⟩ := NestAt.at (rules_firm.quiet HB.out HQ.out) hx
   obtain ⟨a5, cap5, rfl, hle5, hcap5⟩ := NestAt.form hs1
   obtain ⟨a6, cap6, rfl, hle6, hcap6⟩ := NestAt.form hs2
   obtain ⟨a7, cap7, rfl, hle7, hcap7⟩ := DeclsAt.form hd1
   obtain ⟨a8, cap8, rfl, hle8, hcap8⟩ := DeclsAt.form hd2
   have g0 : wr0.cell? ⟨b, off + i * 5, none⟩ = some (.string (str x.media)) := hc 0 _ rfl
   have g1 : wr0.cell? ⟨b, off + i * 5 + 1, none⟩ = some (.slice a5 x.sels.length cap5) := hc 1 _ rfl
   have g2 : wr0.cell? ⟨b, off + i * 5 + 2, none⟩ = some (.slice a7 x.decls.length cap7) := hc 2 _ rfl
   have g3 : wr0.cell? ⟨b, off + i * 5 + 3, none⟩ = some (.int .i64 x.lo) := hc 3 _ rfl
   have g4 : wr0.cell? ⟨b, off + i * 5 + 4, none⟩ = some (.int .i64 x.hi) := hc 4 _ rfl
   have r0 : wr0.cell? ⟨b2, off2 + i * 5, none⟩ = some (.string (str x.media)) := hc2 0 _ rfl
   have r1 : wr0.cell? ⟨b2, off2 + i * 5 + 1, none⟩ = some (.slice a6 x.sels.length cap6) := hc2 1 _ rfl
   have r2 : wr0.cell? ⟨b2, off2 + i * 5 + 2, none⟩ = some (.slice a8 x.decls.length cap8) := hc2 2 _ rfl
   have r3 : wr0.cell? ⟨b2, off2 + i * 5 + 3, none⟩ = some (.int .i64 x.lo) := hc2 3 _ rfl
   have r4 : wr0.cell? ⟨b2, off2 + i * 5 + 4, none⟩ = some (.int .i64 x.hi) := hc2 4 _ rfl
   unfold maxLen at hcap5 hcap6 hcap7 hcap8
   have HS := Lib.hid hs1
   have HS2 := Lib.hid hs2
   have HD := Lib.hid hd1
   have HD2 := Lib.hid hd2
   clear hx hs1 hs2 hd1 hd2 hc hc2
   go_wp2_with fail
   go_quiet ((go_at_call 38; exact Calls.quiet_of (sameDecls_any _ _ _ _ HD.out HD2.out)))
   clear g0 g2 g3 g4 r0 r2 r3 r4
   go_wp2_with fail
   go_loopw [76] (fun j wx => ∃ l : Nat, l ≤ x.sels.length ∧ j = .int .i64 l ∧ Hid (Qt wr0 wx)) (fun j _ => x.sels.length - (intOf j).toNat)
   case atStart => exact ⟨0, by omega, rfl, ⟨nq, rfl⟩⟩
   case round =>
    obtain ⟨l, hl, rfl, HQ2⟩ := hrel
    by_cases hlt2 : l < x.sels.length
    ·have hy := List.getElem?_eq_getElem hlt2
     generalize hgy : x.sels[l] = y at hy
     clear hgy
     obtain ⟨b3, off3, u3, rfl, hp, hu3⟩ := NestAt.at (sels_firm.quiet HS.out HQ2.out) hy
     obtain ⟨b4, off4, u4, rfl, hq, hu4⟩ := NestAt.at (sels_firm.quiet HS2.out HQ2.out) hy
     have p0 : wr.cell? ⟨b3, off3 + l, none⟩ = some u3 := by have h := hp 0 u3 rfl; simpa using h
     have q0 : wr.cell? ⟨b4, off4 + l, none⟩ = some u4 := by have h := hq 0 u4 rfl; simpa using h
     obtain ⟨nn, hnn⟩ := HQ2.out
     have g2' : wr.cell? ⟨b, off + i * 5 + 1, none⟩ = some (.slice (some ⟨b3, off3, none⟩) x.sels.length cap5) := by rw [hnn]; exact g1
     have r2' : wr.cell? ⟨b2, off2 + i * 5 + 1, none⟩ = some (.slice (some ⟨b4, off4, none⟩) x.sels.length cap6) := by rw [hnn]; exact r1
     have HU := Lib.hid hu3
     have HU2 := Lib.hid hu4
     clear hy g1 r1 hnn hp hq hu3 hu4
     go_wp2_with fail
     go_quiet ((go_at_call 39; exact Calls.quiet_of (sameSel_any _ _ _ _ HU.out HU2.out)))
     go_wp2_with fail
     go_roundw
     case rel => exact ⟨l + 1, by omega, by go_num, Qt.trans HQ2.out ⟨nq, rfl⟩⟩
     case measure => simp [intOf]; omega
    ·go_wp2_with fail
     go_roundw
     case rel => exact ⟨i + 1, by omega, by go_num, Qt.trans HQ.out HQ2.out⟩
     case measure => simp [intOf]; omega
  ·go_wp2
   go_ret
   exact ⟨rfl, HQ.out⟩
theorem reads_of {s : B} {l : List PNode} {rules : List PRule} {T : PT} (h : ReadAs s l rules T) (m : Int) (w : World) (hm : w.cell? ⟨0, 0, none⟩ = some (.int .i64 m)) :
  Calls Tryz.prog 13 #[.string (str s)] w fun e w' => ∃ lv rv, e = .returned (.tuple #[lv, rv, .agg #[.int .i64 0, .int .i64 0]]) ∧ Kept (fun _ => False) w w' ∧ NodesAt w' lv l ∧ RulesAt w' rv rules := by
 have := read_any s m w hm (by have := h.len; omega)
 rw [as_read h] at this
 exact this
theorem rules_one {w : World} {b : Nat} {r : PRule} {sa da : Option Addr} {sc dc : Nat} {t : TypeId} {fz : Nat × Nat} (h : w.heap[b]? = some (.cells #[.string (str r.media), .slice sa r.sels.length sc, .slice da r.decls.length dc, .int .i64 r.lo, .int .i64 r.hi] t fz))
  (hs : SelsAt w (.slice sa r.sels.length sc) r.sels) (hd : DeclsAt w (.slice da r.decls.length dc) r.decls) : RulesAt w (.slice (some ⟨b, 0, none⟩) 1 1) [r] :=
 nest_one (u := .tuple #[.slice sa r.sels.length sc, .slice da r.decls.length dc]) h rfl ⟨_, _, rfl, hs, hd⟩
set_option maxRecDepth 100000 in
set_option maxHeartbeats 6400000 in
theorem foldGone_any (s : B) (m : Int) (w : World) (hm : w.cell? ⟨0, 0, none⟩ = some (.int .i64 m)) (hs : s.length ≤ 9223372036854775807) :
  Calls Tryz.prog 6 #[.string (str s)] w fun e w' => e = .returned (.bool true) ∧ Kept (fun _ => False) w w' := by
 have HA := Lib.hid (alive6_any w m hm)
 have HM := Lib.hid hm
 clear hm
 go_enter Tryz.func6, Tryz.ntmps6
 go_wp2_with (go_at_call 21; refine HA.out.mono ?_; rintro e w1 ⟨rfl, hk1⟩)
 refine (fold_ways s m w1 (hk1.cell id HM.out) hs).mono ?_
 rintro e w2 ⟨hk2, h⟩
 have HK2 := Lib.hid (hk1.trans hk2)
 rcases h with ⟨a, p, rfl, hne⟩ | ⟨l, rules, st, t, T, rfl, hT, hst, hf⟩
 ·have hneI : ((a : Int) != 0) = true := by simp; omega
  clear hne hk1 hk2
  obtain ⟨wb, HWB⟩ : ∃ x, Hid (w2.alloc (.cells #[.int .i64 (a : Int), .int .i64 (p : Int)] 26 (0, 0)) = x) := ⟨_, rfl⟩
  have c0 : wb.cell? ⟨w2.heap.size, 0, none⟩ = some (.int .i64 (a : Int)) := by rw [← HWB.out]; exact cellIn (newIn w2 _) 0 rfl
  have HKB : Hid (Kept (fun _ => False) w wb) := Lib.hid (by rw [← HWB.out]; exact HK2.out.alloc _)
  go_upto_region 4 with fail
  rw [HWB.out]
  go_wp2_with fail
  go_ret
  exact ⟨rfl, HKB.out⟩
 ·obtain ⟨ms, qs, F⟩ := fold_reads hT hst.len hf
  have HT := Lib.hid hT
  have HST := Lib.hid hst
  have HF := Lib.hid F
  have hmost := hT.most
  have hmost2 := F.dst.most
  have htl := F.dst.len
  have HQN := Lib.hid F.left_len
  have hstl := hst.len
  obtain ⟨wb, HWB⟩ : ∃ x, Hid (w2.alloc (.cells #[.int .i64 0, .int .i64 0] 26 (0, 0)) = x) := ⟨_, rfl⟩
  have c0 : wb.cell? ⟨w2.heap.size, 0, none⟩ = some (.int .i64 0) := by rw [← HWB.out]; exact cellIn (newIn w2 _) 0 rfl
  have HKB : Hid (Kept (fun _ => False) w wb) := Lib.hid (by rw [← HWB.out]; exact HK2.out.alloc _)
  clear hk1 hk2 hT hst hf F
  go_upto_region 4 with fail
  rw [HWB.out]
  go_wp2_with fail
  refine (reads_of HT.out m wb (HKB.out.cell id HM.out)).mono ?_
  rintro e w3 ⟨lv, rv, rfl, hk3, hl3, hr3⟩
  obtain ⟨la, lc, rfl, hlc1, hlc2⟩ := hl3.form
  obtain ⟨ra, rc, rfl, hrc1, hrc2⟩ := NestAt.form hr3
  unfold maxLen at hlc2 hrc2
  obtain ⟨w4, HW4⟩ : ∃ x, Hid (w3.alloc (.cells #[.int .i64 0, .int .i64 0] 26 (0, 0)) = x) := ⟨_, rfl⟩
  have hk4 : Kept (fun _ => False) w3 w4 := by rw [← HW4.out]; exact (Kept.refl _ w3).alloc _
  have HL4 := Lib.hid (nodes_firm.kept hl3 hk4)
  have HR4 := Lib.hid (rules_firm.kept hr3 hk4)
  have HK4 := Lib.hid ((HKB.out.trans hk3).trans hk4)
  clear hk3 hl3 hr3 hk4 c0
  go_upto_region 7 with fail
  rw [HW4.out]
  go_wp2_with fail
  refine (reads_of HF.out.dst m w4 (HK4.out.cell id HM.out)).mono ?_
  rintro e w5 ⟨mv, qv, rfl, hk5, hm5, hq5⟩
  obtain ⟨ma, mc, rfl, hmc1, hmc2⟩ := hm5.form
  obtain ⟨qa, qc, rfl, hqc1, hqc2⟩ := NestAt.form hq5
  unfold maxLen at hmc2 hqc2
  obtain ⟨w6, HW6⟩ : ∃ x, Hid (w5.alloc (.cells #[.int .i64 0, .int .i64 0] 26 (0, 0)) = x) := ⟨_, rfl⟩
  have hk6 : Kept (fun _ => False) w5 w6 := by rw [← HW6.out]; exact (Kept.refl _ w5).alloc _
  have c0 : w6.cell? ⟨w5.heap.size, 0, none⟩ = some (.int .i64 0) := by rw [← HW6.out]; exact cellIn (newIn w5 _) 0 rfl
  have HL6 := Lib.hid (nodes_firm.kept HL4.out (hk5.trans hk6))
  have HR6 := Lib.hid (rules_firm.kept HR4.out (hk5.trans hk6))
  have HQ6 := Lib.hid (rules_firm.kept hq5 hk6)
  have HK6 := Lib.hid ((HK4.out.trans hk5).trans hk6)
  clear hk5 hm5 hq5 hk6
  go_upto_region 8 with fail
  rw [HW6.out]
  go_wp2_with fail
  refine (stays_any l rules ((read_lim (as_read HT.out)).ca (fun r h => h) (Nat.le_refl _)) m w6 _ _ HL6.out HR6.out (HK6.out.cell id HM.out)).mono ?_
  rintro e w7 ⟨bs, st', rfl, hst', hb7, hbs, hk7⟩
  obtain rfl : st' = st := hst'.unique HST.out
  have HB7 := Lib.hid hb7
  have HK7 := Lib.hid (HK6.out.trans hk7)
  have HR7 := Lib.hid (rules_firm.kept HR6.out hk7)
  have HQ7 := Lib.hid (rules_firm.kept HQ6.out hk7)
  clear hst' hb7 hk7 c0
  go_wp2_with fail
  go_loopw [12, 13, 51] (fun k so c wr => ∃ (i : Nat) (x : Bool), i ≤ rules.length ∧ c = .int .i64 (i : Int) ∧ k = .int .i64 (tru st' i : Int) ∧ so = .bool x ∧ Hid (someM rules i = x) ∧ Hid (Kept (fun _ => False) w7 wr)) (fun _ _ c _ => rules.length - (intOf c).toNat)
  case atStart => exact ⟨0, false, by omega, rfl, rfl, rfl, Lib.hid rfl, Lib.hid (Kept.refl _ _)⟩
  case round =>
   obtain ⟨i, x, hi, rfl, rfl, rfl, HSO, HK⟩ := hrel
   obtain ⟨wr0, hwr0⟩ : ∃ x, x = wr := ⟨_, rfl⟩
   subst hwr0
   by_cases hlt : i < rules.length
   ·have hx := List.getElem?_eq_getElem hlt
    generalize hgx : rules[i] = r at hx
    clear hgx
    have HX := Lib.hid hx
    have hsx := List.getElem?_eq_getElem (show i < st'.length by omega)
    generalize hgs : st'[i] = bit at hsx
    clear hgs
    have HSX := Lib.hid hsx
    obtain ⟨rb, ro, u, rfl, hcs, sv, dv, rfl, hss, hds⟩ := NestAt.at (rules_firm.kept HR7.out HK.out) hx
    obtain ⟨sa, sc, rfl, hsc1, hsc2⟩ := NestAt.form hss
    obtain ⟨da, dc, rfl, hdc1, hdc2⟩ := DeclsAt.form hds
    unfold maxLen at hsc2 hdc2
    have r0 : wr0.cell? ⟨rb, ro + i * 5, none⟩ = some (.string (str r.media)) := hcs 0 _ rfl
    have r1 : wr0.cell? ⟨rb, ro + i * 5 + 1, none⟩ = some (.slice sa r.sels.length sc) := hcs 1 _ rfl
    have r2 : wr0.cell? ⟨rb, ro + i * 5 + 2, none⟩ = some (.slice da r.decls.length dc) := hcs 2 _ rfl
    have r3 : wr0.cell? ⟨rb, ro + i * 5 + 3, none⟩ = some (.int .i64 r.lo) := hcs 3 _ rfl
    have r4 : wr0.cell? ⟨rb, ro + i * 5 + 4, none⟩ = some (.int .i64 r.hi) := hcs 4 _ rfl
    have b0 : wr0.cell? ⟨bs, i, none⟩ = some (.bool bit) := HK.out.cell id (cellIn HB7.out i (by simp [HSX.out]))
    have HSS := Lib.hid hss
    have HDS := Lib.hid hds
    clear hcs hss hds hx hsx
    have hso2 : Hid (someM rules (i + 1) = (x || !r.media.isEmpty)) := Lib.hid (by rw [someM_succ HX.out, HSO.out])
    go_upto_region 17 with fail
    go_cut [13] (fun so wx => wx = wr0 ∧ so = .bool (x || !r.media.isEmpty))
    case first =>
     cases x with
     | true =>
      go_wp2_with fail
      go_meet
      case rel => first | exact ⟨rfl, rfl⟩ | simp
     | false =>
      cases hme : r.media.isEmpty with
      | true =>
       go_wp2_with fail
       go_meet
       case rel => exact ⟨rfl, by rw [hme]; rfl⟩
      | false =>
       go_wp2_with fail
       go_meet
       case rel => exact ⟨rfl, by rw [hme]; rfl⟩
    case rest =>
     obtain ⟨rfl, rfl⟩ := hcut
     obtain ⟨y, HY⟩ : ∃ y, Hid ((x || !r.media.isEmpty) = y) := ⟨_, Lib.hid rfl⟩
     rw [HY.out]
     have hso3 : Hid (someM rules (i + 1) = y) := Lib.hid (hso2.out.trans HY.out)
     cases bit with
     | false =>
      have ht := tru_succ HSX.out
      rw [if_neg (by simp), Nat.add_zero] at ht
      have HT' := Lib.hid ht
      clear ht
      go_wp2_with fail
      go_roundw
      case measure => simp [intOf]; omega
      case rel => exact ⟨i + 1, y, by omega, by go_num, by rw [HT'.out]; simp, rfl, hso3, HK⟩
     | true =>
      have ht := tru_succ HSX.out
      rw [if_pos rfl] at ht
      have HT' := Lib.hid ht
      obtain ⟨q, hq, hqr⟩ := HF.out.left HX.out HSX.out
      obtain ⟨k, HKN⟩ : ∃ x, Hid (tru st' i = x) := ⟨_, Lib.hid rfl⟩
      rw [HKN.out] at hq ⊢
      have hkl : k < qs.length := (List.getElem?_eq_some_iff.1 hq).1
      have hq1 : q.media = r.media := by rw [← hqr]
      have hq2 : q.sels = r.sels := by rw [← hqr]
      have hq3 : q.decls = r.decls := by rw [← hqr]
      obtain ⟨qb, qo, qu, rfl, qcs, qsv, qdv, rfl, qss, qds⟩ := NestAt.at (rules_firm.kept HQ7.out HK.out) hq
      obtain ⟨qsa, qsc, rfl, qsc1, qsc2⟩ := NestAt.form qss
      obtain ⟨qda, qdc, rfl, qdc1, qdc2⟩ := DeclsAt.form qds
      rw [hq2] at qss qsc1
      rw [hq3] at qds qdc1
      unfold maxLen at qsc2 qdc2
      have g0 : wc.cell? ⟨qb, qo + k * 5, none⟩ = some (.string (str r.media)) := by rw [← hq1]; exact qcs 0 _ rfl
      have g1 : wc.cell? ⟨qb, qo + k * 5 + 1, none⟩ = some (.slice qsa r.sels.length qsc) := by rw [← hq2]; exact qcs 1 _ rfl
      have g2 : wc.cell? ⟨qb, qo + k * 5 + 2, none⟩ = some (.slice qda r.decls.length qdc) := by rw [← hq3]; exact qcs 2 _ rfl
      have g3 : wc.cell? ⟨qb, qo + k * 5 + 3, none⟩ = some (.int .i64 q.lo) := qcs 3 _ rfl
      have g4 : wc.cell? ⟨qb, qo + k * 5 + 4, none⟩ = some (.int .i64 q.hi) := qcs 4 _ rfl
      have QSS := Lib.hid qss
      have QDS := Lib.hid qds
      have hkI : ¬ (qs.length : Int) ≤ (k : Int) := by omega
      clear ht hqr hq1 hq2 hq3 qcs qss qds hq
      obtain ⟨bx, HBX⟩ : ∃ x, Hid (wc.heap.size = x) := ⟨_, Lib.hid rfl⟩
      obtain ⟨wA, HWA⟩ : ∃ x, Hid (wc.alloc (.cells #[.string (str r.media), .slice qsa r.sels.length qsc, .slice qda r.decls.length qdc, .int .i64 q.lo, .int .i64 q.hi] 42 (0, 0)) = x) := ⟨_, Lib.hid rfl⟩
      have hkA : Kept (fun _ => False) wc wA := by rw [← HWA.out]; exact (Kept.refl _ wc).alloc _
      have hA : wA.heap[bx]? = some (.cells #[.string (str r.media), .slice qsa r.sels.length qsc, .slice qda r.decls.length qdc, .int .i64 q.lo, .int .i64 q.hi] 42 (0, 0)) := by rw [← HWA.out, ← HBX.out]; exact newIn wc _
      have rbl : rb < wc.heap.size := World.block_lt_of_cell? wc _ r0
      obtain ⟨wB, HWB2⟩ : ∃ x, Hid ((wA.setCell ⟨bx, 3, none⟩ (.int .i64 r.lo)).setCell ⟨bx, 4, none⟩ (.int .i64 r.hi) = x) := ⟨_, Lib.hid rfl⟩
      have hB : wB.heap[bx]? = some (.cells #[.string (str r.media), .slice qsa r.sels.length qsc, .slice qda r.decls.length qdc, .int .i64 r.lo, .int .i64 r.hi] 42 (0, 0)) := by
       rw [← HWB2.out]
       have := setIn (setIn hA 3 (.int .i64 r.lo)) 4 (.int .i64 r.hi)
       simpa using this
      have hkB : Kept (fun _ => False) wc wB := by
       rw [← HWB2.out]
       exact (hkA.setCell (p := ⟨bx, 3, none⟩) (.inr (by rw [← HBX.out]; exact Nat.le_refl _)) _).setCell (p := ⟨bx, 4, none⟩) (.inr (by rw [← HBX.out]; exact Nat.le_refl _)) _
      have a3 := hkA.cell id r3
      have a4 := hkA.cell id r4
      have x3 := cellIn hA 3 rfl
      have x4 := cellIn hA 4 rfl
      have y3 := freeIn hA 3
      have y4 := freeIn hA 4
      have HB2 := Lib.hid hB
      have HKB2 := Lib.hid hkB
      clear hA hB hkA hkB
      go_upto_region 22 with fail
      rw [HWA.out, HBX.out]
      go_upto_region 23 with fail
      rw [HWB2.out]
      clear g0 g1 g2 g3 g4 a3 a4 x3 x4 y3 y4
      have s0 := HKB2.out.cell id r0
      have s1 := HKB2.out.cell id r1
      have s2 := HKB2.out.cell id r2
      have s3 := HKB2.out.cell id r3
      have s4 := HKB2.out.cell id r4
      have x0 := cellIn HB2.out 0 rfl
      have x1 := cellIn HB2.out 1 rfl
      have x2 := cellIn HB2.out 2 rfl
      have x3 := cellIn HB2.out 3 rfl
      have x4 := cellIn HB2.out 4 rfl
      clear r0 r1 r2 r3 r4 b0
      have HSR : Hid (∀ (wx : World) (b1 b2 : Nat), Kept (fun _ => False) wB wx → wx.heap[b1]? = some (.cells #[.string (str r.media), .slice sa r.sels.length sc, .slice da r.decls.length dc, .int .i64 r.lo, .int .i64 r.hi] 42 (0, 0)) → wx.heap[b2]? = some (.cells #[.string (str r.media), .slice qsa r.sels.length qsc, .slice qda r.decls.length qdc, .int .i64 r.lo, .int .i64 r.hi] 42 (0, 0)) →
        Calls Tryz.prog 16 #[.slice (some ⟨b1, 0, none⟩) 1 1, .slice (some ⟨b2, 0, none⟩) 1 1] wx fun e w' => e = .returned (.bool true) ∧ Qt wx w') := Lib.hid (fun wx b1 b2 hk h1 h2 =>
       sameRules_any wx _ _ [r] (rules_one h1 (sels_firm.kept HSS.out (HKB2.out.trans hk)) (decls_firm.kept HDS.out (HKB2.out.trans hk))) (rules_one h2 (sels_firm.kept QSS.out (HKB2.out.trans hk)) (decls_firm.kept QDS.out (HKB2.out.trans hk))))
      have E1 : ((wB.alloc (.cells #[.string (str r.media), .slice sa r.sels.length sc, .slice da r.decls.length dc, .int .i64 r.lo, .int .i64 r.hi] 42 (0, 0))).alloc (.cells #[.string (str r.media), .slice qsa r.sels.length qsc, .slice qda r.decls.length qdc, .int .i64 r.lo, .int .i64 r.hi] 42 (0, 0))).heap[wB.heap.size]? = some (.cells #[.string (str r.media), .slice sa r.sels.length sc, .slice da r.decls.length dc, .int .i64 r.lo, .int .i64 r.hi] 42 (0, 0)) := oldIn (newIn wB _) _
      have E2 : ((wB.alloc (.cells #[.string (str r.media), .slice sa r.sels.length sc, .slice da r.decls.length dc, .int .i64 r.lo, .int .i64 r.hi] 42 (0, 0))).alloc (.cells #[.string (str r.media), .slice qsa r.sels.length qsc, .slice qda r.decls.length qdc, .int .i64 r.lo, .int .i64 r.hi] 42 (0, 0))).heap[wB.heap.size + 1]? = some (.cells #[.string (str r.media), .slice qsa r.sels.length qsc, .slice qda r.decls.length qdc, .int .i64 r.lo, .int .i64 r.hi] 42 (0, 0)) := by
       have := newIn (wB.alloc (.cells #[.string (str r.media), .slice sa r.sels.length sc, .slice da r.decls.length dc, .int .i64 r.lo, .int .i64 r.hi] 42 (0, 0))) (.cells #[.string (str r.media), .slice qsa r.sels.length qsc, .slice qda r.decls.length qdc, .int .i64 r.lo, .int .i64 r.hi] 42 (0, 0))
       simpa using this
      have E3 : ((wB.alloc (.cells #[.string (str r.media), .slice qsa r.sels.length qsc, .slice qda r.decls.length qdc, .int .i64 r.lo, .int .i64 r.hi] 42 (0, 0))).alloc (.cells #[.string (str r.media), .slice sa r.sels.length sc, .slice da r.decls.length dc, .int .i64 r.lo, .int .i64 r.hi] 42 (0, 0))).heap[wB.heap.size]? = some (.cells #[.string (str r.media), .slice qsa r.sels.length qsc, .slice qda r.decls.length qdc, .int .i64 r.lo, .int .i64 r.hi] 42 (0, 0)) := oldIn (newIn wB _) _
      have E4 : ((wB.alloc (.cells #[.string (str r.media), .slice qsa r.sels.length qsc, .slice qda r.decls.length qdc, .int .i64 r.lo, .int .i64 r.hi] 42 (0, 0))).alloc (.cells #[.string (str r.media), .slice sa r.sels.length sc, .slice da r.decls.length dc, .int .i64 r.lo, .int .i64 r.hi] 42 (0, 0))).heap[wB.heap.size + 1]? = some (.cells #[.string (str r.media), .slice sa r.sels.length sc, .slice da r.decls.length dc, .int .i64 r.lo, .int .i64 r.hi] 42 (0, 0)) := by
       have := newIn (wB.alloc (.cells #[.string (str r.media), .slice qsa r.sels.length qsc, .slice qda r.decls.length qdc, .int .i64 r.lo, .int .i64 r.hi] 42 (0, 0))) (.cells #[.string (str r.media), .slice sa r.sels.length sc, .slice da r.decls.length dc, .int .i64 r.lo, .int .i64 r.hi] 42 (0, 0))
       simpa using this
      have HE1 := Lib.hid E1
      have HE2 := Lib.hid E2
      have HE3 := Lib.hid E3
      have HE4 := Lib.hid E4
      clear E1 E2 E3 E4
      go_region_held3 (fun w' => w'.cell? ⟨rb, ro + i * 5, none⟩ = some (.string (str r.media)) ∧ w'.cell? ⟨rb, ro + i * 5 + 1, none⟩ = some (.slice sa r.sels.length sc) ∧ w'.cell? ⟨rb, ro + i * 5 + 2, none⟩ = some (.slice da r.decls.length dc) ∧ w'.cell? ⟨rb, ro + i * 5 + 3, none⟩ = some (.int .i64 r.lo) ∧ w'.cell? ⟨rb, ro + i * 5 + 4, none⟩ = some (.int .i64 r.hi) ∧
       w'.cell? ⟨bx, 0, none⟩ = some (.string (str r.media)) ∧ w'.cell? ⟨bx, 1, none⟩ = some (.slice qsa r.sels.length qsc) ∧ w'.cell? ⟨bx, 2, none⟩ = some (.slice qda r.decls.length qdc) ∧ w'.cell? ⟨bx, 3, none⟩ = some (.int .i64 r.lo) ∧ w'.cell? ⟨bx, 4, none⟩ = some (.int .i64 r.hi)) (first | go_keep | exact ⟨hk8.out.cell id s0, hk8.out.cell id s1, hk8.out.cell id s2, hk8.out.cell id s3, hk8.out.cell id s4, hk8.out.cell id x0, hk8.out.cell id x1, hk8.out.cell id x2, hk8.out.cell id x3, hk8.out.cell id x4⟩) ((go_at_call 16; refine (HSR.out _ _ _ (by first | exact (((Kept.refl _ wB).alloc _).alloc _).drew | exact ((Kept.refl _ wB).alloc _).alloc _ | exact (((Kept.refl _ wB).drew).alloc _).alloc _ | exact (((Kept.refl _ wB).alloc _).drew).alloc _) (by first | exact HE1.out | exact HE4.out) (by first | exact HE2.out | exact HE3.out)).mono ?_; rintro e w8 ⟨rfl, hq8⟩; (have hk8 : Kept (fun _ => False) wB w8 := by first | exact ((((Kept.refl _ wB).alloc _).alloc _).drew).trans (hq8.kept _) | exact (((Kept.refl _ wB).alloc _).alloc _).trans (hq8.kept _) | exact ((((Kept.refl _ wB).drew).alloc _).alloc _).trans (hq8.kept _) | exact ((((Kept.refl _ wB).alloc _).drew).alloc _).trans (hq8.kept _)); (replace hk8 := Lib.hid hk8); clear hq8))
      all_goals
       go_wp2_with fail
       go_roundw
       case measure => simp [intOf]; omega
       case rel => exact ⟨i + 1, y, by omega, by go_num, by rw [HT'.out, HKN.out]; go_num, rfl, hso3, Lib.hid ((HK.out.trans HKB2.out).trans hk8.out)⟩
   ·obtain rfl : i = rules.length := by omega
    have hk := HQN.out
    have hend : x = false → tru st' rules.length = 0 := fun hh => someM_end HST.out (HSO.out.trans hh)
    rw [← hk] at hend ⊢
    cases x with
    | true =>
     clear hend hk
     go_wp2_with fail
     go_ret
     exact ⟨rfl, HK7.out.trans HK.out⟩
    | false =>
     have h0 := hend rfl
     clear hend hk
     rw [h0]
     go_wp2_with fail
     go_ret
     exact ⟨rfl, HK7.out.trans HK.out⟩
end Go.Proofs.YtplbdlgmjehckacGreatDoor

