/-
 Lemmas for the claims of this seat: the program's functions walked, and plain laws. In this order: SameN FoLawKeeps.
-/
import Derived.Test.YtplbdlgmjehckacGreatDoorPk13
import Derived.Deep.QuietTactic
import Derived.Test.YtplbdlgmjehckacGreatDoorPk9
import Derived.Deep.Light
import Derived.Test.YtplbdlgmjehckacGreatDoorPk26
import Derived.Test.YtplbdlgmjehckacGreatDoorPkFoKeepsFull27
import Derived.Deep.AppendLies
namespace Go.Proofs.YtplbdlgmjehckacGreatDoor
open Go.RowKit
set_option linter.unusedVariables false
set_option linter.unusedSimpArgs false
set_option maxRecDepth 100000 in
set_option maxHeartbeats 3200000 in
theorem same_any (w : World) (va vb : Value) (ns : List PNode) (ha : NodesAt w va ns) (hb : NodesAt w vb ns) :
  Calls Tryz.prog 15 #[va, vb] w fun e w' => e = .returned (.bool true) ∧ Qt w w' := by
 obtain ⟨aa, ca, rfl, hca1, hca2⟩ := ha.form
 obtain ⟨ab, cb, rfl, hcb1, hcb2⟩ := hb.form
 unfold maxLen at hca2 hcb2
 have HA := Lib.hid ha
 have HB := Lib.hid hb
 clear ha hb
 go_enter Tryz.func15, Tryz.ntmps15
 go_wp2
 go_loopw [14] (fun i wr => ∃ k : Nat, k ≤ ns.length ∧ i = .int .i64 k ∧ Hid (Qt w wr)) (fun i _ => ns.length - (intOf i).toNat)
 case atStart => exact ⟨0, by omega, rfl, Qt.refl _⟩
 case round =>
  obtain ⟨i, hi, rfl, HQ⟩ := hrel
  obtain ⟨wr0, hwr0⟩ : ∃ x, x = wr := ⟨_, rfl⟩
  subst hwr0
  by_cases hlt : i < ns.length
  ·have hx := List.getElem?_eq_getElem hlt
   generalize hgx : ns[i] = x at hx
   clear hgx
   obtain ⟨b, off, av, rfl, g0, g1, g2, g3, g4, g5, hav⟩ := (HA.out.quiet HQ.out).at hx
   obtain ⟨b2, off2, av2, rfl, r0, r1, r2, r3, r4, r5, hav2⟩ := (HB.out.quiet HQ.out).at hx
   obtain ⟨a5, cap5, rfl, hle5, hcap5⟩ := hav.form
   obtain ⟨a6, cap6, rfl, hle6, hcap6⟩ := hav2.form
   unfold maxLen at hcap5 hcap6
   have HAV := Lib.hid hav
   have HAV2 := Lib.hid hav2
   clear hx hav hav2
   go_wp2_with fail
   go_quiet (fail)
   clear g0 g1 g3 g4 g5 r0 r1 r3 r4 r5
   go_wp2_with fail
   go_loopw [88] (fun j wx => ∃ l : Nat, l ≤ x.attrs.length ∧ j = .int .i64 l ∧ Hid (Qt wr0 wx)) (fun j _ => x.attrs.length - (intOf j).toNat)
   case atStart => exact ⟨0, by omega, rfl, ⟨nq, rfl⟩⟩
   case round =>
    obtain ⟨l, hl, rfl, HQ2⟩ := hrel
    by_cases hlt2 : l < x.attrs.length
    ·have hy := List.getElem?_eq_getElem hlt2
     generalize hgy : x.attrs[l] = y at hy
     clear hgy
     obtain ⟨b3, off3, rfl, p0, p1, p2, p3⟩ := (HAV.out.qt HQ2.out).at hy
     obtain ⟨b4, off4, rfl, q0, q1, q2, q3⟩ := (HAV2.out.qt HQ2.out).at hy
     obtain ⟨nn, hnn⟩ := HQ2.out
     have g2' : wr.cell? ⟨b, off + i * 6 + 2, none⟩ = some (.slice (some ⟨b3, off3, none⟩) x.attrs.length cap5) := by rw [hnn]; exact g2
     have r2' : wr.cell? ⟨b2, off2 + i * 6 + 2, none⟩ = some (.slice (some ⟨b4, off4, none⟩) x.attrs.length cap6) := by rw [hnn]; exact r2
     clear hy g2 r2 hnn
     go_wp2_with fail
     go_quiet (fail)
     go_wp2_with fail
     go_roundw
     case rel => exact ⟨l + 1, by omega, by go_num, Qt.trans HQ2.out ⟨nq, rfl⟩⟩
     case measure => simp [intOf]; omega
    ·go_wp2_with fail
     go_roundw
     case rel => exact ⟨i + 1, by omega, by go_num, Qt.trans HQ.out HQ2.out⟩
     case measure => simp [intOf]; omega
  ·go_wp2
   go_ret
   exact ⟨rfl, HQ.out⟩
theorem reads_of {s : B} {l : List PNode} {rules : List PRule} {T : PT} (h : ReadAs s l rules T) (m : Int) (w : World) (hm : w.cell? ⟨0, 0, none⟩ = some (.int .i64 m)) :
  Calls Tryz.prog 13 #[.string (str s)] w fun e w' => ∃ lv rv, e = .returned (.tuple #[lv, rv, .agg #[.int .i64 0, .int .i64 0]]) ∧ Kept (fun _ => False) w w' ∧ NodesAt w' lv l ∧ RulesAt w' rv rules := by
 have := read_any s m w hm (by have := h.len; omega)
 rw [as_read h] at this
 exact this
theorem set_same {w : World} {b k : Nat} {cs : Array Value} {t : TypeId} {fz : Nat × Nat} {v : Value} (h : w.heap[b]? = some (.cells cs t fz)) (hv : cs[k]? = some v) : w.setCell ⟨b, k, none⟩ v = w := by
 have hcs : cs.setIfInBounds k v = cs := by
  apply Array.ext_getElem?
  intro i
  rw [Array.getElem?_setIfInBounds]
  split
  ·rename_i hi
   subst hi
   split
   ·exact hv.symm
   ·rename_i hlt
    rw [Array.getElem?_eq_none (by omega)] at hv
    cases hv
  ·rfl
 have h1 : (w.setCell ⟨b, k, none⟩ v).heap = w.heap := by
  apply Array.ext_getElem?
  intro i
  by_cases hi : i = b
  ·subst hi
   rw [setIn h k v, hcs, h]
  ·exact Below.heap_setCell w ⟨b, k, none⟩ v i hi
 have h2 : w.setCell ⟨b, k, none⟩ v = { w with heap := (w.setCell ⟨b, k, none⟩ v).heap } := rfl
 rw [h2, h1]
theorem ReadAs.page {s : B} {l : List PNode} {rules : List PRule} {T : PT} (R : ReadAs s l rules T) : pParse s = .ok l := by
 rw [R.text, R.nodes]
 exact page_read R.wf (by rw [← R.text]; exact R.len) R.few
structure AG (w0 wr : World) (v : Value) (as' : List PAttr) : Prop where
 own : wr.ownsRow w0.heap.size 47 4 v as'.length (as'.map attrCells).flatten
 kept : Kept (fun _ => False) w0 wr
theorem AG.start (w : World) : AG w w (.slice none 0 0) [] := ⟨World.ownsRow_nil _ _ _ _, Kept.refl _ _⟩
theorem AG.still {w0 wr wx : World} {v : Value} {as' : List PAttr} (h : AG w0 wr v as') (hk : Kept (fun _ => False) wr wx) : AG w0 wx v as' := ⟨owns_kept h.own hk (fun _ _ => id), h.kept.trans hk⟩
theorem AG.form {w0 wr : World} {v : Value} {as' : List PAttr} (h : AG w0 wr v as') : ∃ ao ac, v = .slice ao as'.length ac := by
 rcases h.own.2 with ⟨rfl, hn⟩ | ⟨g, cap, cur, rfl, _⟩
 ·exact ⟨none, 0, by rw [hn]⟩
 ·exact ⟨_, cap, rfl⟩
theorem attrs_rows (as' : List PAttr) : ∀ r ∈ as'.map attrCells, r.length = 4 := by
 intro r hr
 obtain ⟨a, _, rfl⟩ := List.mem_map.1 hr; rfl
theorem AG.reads {w0 wr : World} {v : Value} {as' : List PAttr} (h : AG w0 wr v as') : AttrsAt wr v as' := rowsAt_of_owns (attrs_rows as') (by simp) h.own
theorem AG.push {w0 wr w' : World} {o : Obj} {ao : Option Addr} {n ac gg cap : Nat} {as' : List PAttr} {a : PAttr} (hn : n = as'.length) (h : AG w0 wr (.slice ao n ac) as') (hown : w'.ownsRow w0.heap.size 47 4 (.slice (some ⟨gg, 0, none⟩) (n + 1) cap) (n + 1) ((as'.map attrCells).flatten ++ attrCells a))
  (hg : (wr.alloc o).grownBy w' (Value.slice ao n ac).ownBlock) : AG w0 w' (.slice (some ⟨gg, 0, none⟩) (n + 1) cap) (as' ++ [a]) := by
 subst hn
 refine ⟨by simpa using hown, ?_⟩
 have hk : Kept (fun k => (Value.slice ao as'.length ac).ownBlock = some k) wr w' := ((Kept.refl _ wr).alloc o).grown hg (fun k hk => .inl hk)
 exact h.kept.trans' hk (fun k hk hs => by have := (h.own.lt k hs).1; omega)
theorem info_attr'' : (Tryz.prog.info? 47).map (fun i => (i.zero, i.size, i.bytes)) = some (some (.agg #[.string ⟨#[]⟩, .string ⟨#[]⟩, .int .i64 0, .int .i64 0]), 4, 48) := by kernel_rfl
theorem nodes_bare {w : World} {b : Nat} {aa : Option Addr} {n ac : Nat} {as' : List PAttr} {t : TypeId} {fz : Nat × Nat} (h : w.heap[b]? = some (.cells #[.string ⟨#[]⟩, .int .i64 0, .slice aa n ac, .int .i64 0, .int .i64 0, .int .i64 0] t fz)) (ha : AttrsAt w (.slice aa n ac) as') :
  NodesAt w (.slice (some ⟨b, 0, none⟩) 1 1) [⟨[], 0, as', 0, 0, 0⟩] := by
 refine ⟨[.slice aa n ac], rfl, ⟨some ⟨b, 0, none⟩, 1, rfl, Nat.le_refl _, by unfold maxLen; omega, fun _ => ⟨b, 0, rfl, fun i r hr j c hc => ?_⟩⟩, fun i x av hx hav => ?_⟩
 ·cases i with
  | zero =>
   simp only [List.zipWith_cons_cons, List.zipWith_nil_right, List.getElem?_cons_zero, Option.some.injEq] at hr
   subst hr
   rw [cell_of_row w b _ _ _ _ h]
   simpa [nodeCells, str] using hc
  | succ i => simp at hr
 ·cases i with
  | zero => cases hx; cases hav; exact ha
  | succ i => simp at hx
set_option maxRecDepth 100000 in
set_option maxHeartbeats 12800000 in
theorem foldKeeps_any (s : B) (m : Int) (w : World) (hm : w.cell? ⟨0, 0, none⟩ = some (.int .i64 m)) (hs : s.length ≤ 9223372036854775807) :
  Calls Tryz.prog 5 #[.string (str s)] w fun e w' => e = .returned (.bool true) ∧ Kept (fun _ => False) w w' := by
 have HA := Lib.hid (alive6_any w m hm)
 have HM := Lib.hid hm
 clear hm
 go_enter Tryz.func5, Tryz.ntmps5
 go_wp2_with (go_at_call 21; refine HA.out.mono ?_; rintro e w1 ⟨rfl, hk1⟩)
 refine (fold_ways s m w1 (hk1.cell id HM.out) hs).mono ?_
 rintro e w2 ⟨hk2, h⟩
 have HK2 := Lib.hid (hk1.trans hk2)
 rcases h with ⟨a, p, rfl, hne⟩ | ⟨l, rules, st, t, T, rfl, hT, hst, hf⟩
 ·have hneI : ((a : Int) != 0) = true := by simp; omega
  clear hne hk1 hk2
  obtain ⟨wb, HWB⟩ : ∃ x, Hid (w2.alloc (.cells #[.int .i64 (a : Int), .int .i64 (p : Int)] 26 (0, 0)) = x) := ⟨_, rfl⟩
  have c0 : wb.cell? ⟨w2.heap.size, 0, none⟩ = some (.int .i64 (a : Int)) := by rw [← HWB.out]; exact cellIn (newIn w2 _) 0 rfl
  have HKB : Hid (Kept (fun _ => False) w wb) := Lib.hid (by rw [← HWB.out]; exact HK2.out.alloc _)
  go_upto_region 4 with fail
  rw [HWB.out]
  go_wp2_with fail
  go_ret
  exact ⟨rfl, HKB.out⟩
 ·obtain ⟨ms, qs, F⟩ := fold_reads hT hst.len hf
  have HT := Lib.hid hT
  have HST := Lib.hid hst
  have HF := Lib.hid F
  have hmost := hT.most
  have hmost2 := F.dst.most
  have htl := F.dst.len
  have hlen := F.rel.len
  have hstl := hst.len
  obtain ⟨wb, HWB⟩ : ∃ x, Hid (w2.alloc (.cells #[.int .i64 0, .int .i64 0] 26 (0, 0)) = x) := ⟨_, rfl⟩
  have c0 : wb.cell? ⟨w2.heap.size, 0, none⟩ = some (.int .i64 0) := by rw [← HWB.out]; exact cellIn (newIn w2 _) 0 rfl
  have HKB : Hid (Kept (fun _ => False) w wb) := Lib.hid (by rw [← HWB.out]; exact HK2.out.alloc _)
  have HFB : Hid (wb.heap[w2.heap.size]? = some (.cells #[.int .i64 0, .int .i64 0] 26 (0, 0))) := Lib.hid (by rw [← HWB.out]; exact newIn w2 _)
  have HFF := Lib.hid hf
  clear hk1 hk2 hT hst hf F
  go_upto_region 4 with fail
  rw [HWB.out]
  go_wp2_with fail
  refine (reads_of HT.out m wb (HKB.out.cell id HM.out)).mono ?_
  rintro e w3 ⟨lv, rv, rfl, hk3, hl3, hr3⟩
  obtain ⟨la, lc, rfl, hlc1, hlc2⟩ := hl3.form
  obtain ⟨ra, rc, rfl, hrc1, hrc2⟩ := NestAt.form hr3
  unfold maxLen at hlc2 hrc2
  have HF3 := Lib.hid (hk3.heap id HFB.out)
  have HL3 := Lib.hid hl3
  have HR3 := Lib.hid hr3
  have HK3 := Lib.hid (HKB.out.trans hk3)
  have d0 := cellIn HF3.out 0 rfl
  have d1 := cellIn HF3.out 1 rfl
  have f0 := freeIn HF3.out 0
  have f1 := freeIn HF3.out 1
  clear hk3 hl3 hr3 c0
  go_upto_region 7 with fail
  rw [set_same HF3.out rfl, set_same HF3.out rfl]
  go_wp2_with fail
  refine (reads_of HF.out.dst m w3 (HK3.out.cell id HM.out)).mono ?_
  rintro e w5 ⟨mv, qv, rfl, hk5, hm5, hq5⟩
  obtain ⟨ma, mc, rfl, hmc1, hmc2⟩ := hm5.form
  obtain ⟨qa, qc, rfl, hqc1, hqc2⟩ := NestAt.form hq5
  unfold maxLen at hmc2 hqc2
  obtain ⟨w6, HW6⟩ : ∃ x, Hid (w5.alloc (.cells #[.int .i64 0, .int .i64 0] 26 (0, 0)) = x) := ⟨_, rfl⟩
  have hk6 : Kept (fun _ => False) w5 w6 := by rw [← HW6.out]; exact (Kept.refl _ w5).alloc _
  have c0 : w6.cell? ⟨w5.heap.size, 0, none⟩ = some (.int .i64 0) := by rw [← HW6.out]; exact cellIn (newIn w5 _) 0 rfl
  have c1 : w6.cell? ⟨w2.heap.size, 0, none⟩ = some (.int .i64 0) := cellIn ((hk5.trans hk6).heap id HF3.out) 0 rfl
  have HL6 := Lib.hid (nodes_firm.kept HL3.out (hk5.trans hk6))
  have HR6 := Lib.hid (rules_firm.kept HR3.out (hk5.trans hk6))
  have HM6 := Lib.hid (nodes_firm.kept hm5 hk6)
  have HQ6 := Lib.hid (rules_firm.kept hq5 hk6)
  have HK6 := Lib.hid ((HK3.out.trans hk5).trans hk6)
  clear hk5 hm5 hq5 hk6 d0 d1 f0 f1
  have HLEN := Lib.hid hlen
  go_upto_region 8 with fail
  rw [HW6.out]
  go_wp2_with fail
  go_loopw [10, 59] (fun so c wr => ∃ (i : Nat) (x : Bool), i ≤ rules.length ∧ c = .int .i64 (i : Int) ∧ so = .bool x ∧ Hid (stillR rules i = x) ∧ Hid (Kept (fun _ => False) w6 wr)) (fun _ c _ => rules.length - (intOf c).toNat)
  case atStart => exact ⟨0, true, by omega, rfl, rfl, Lib.hid rfl, Lib.hid (Kept.refl _ _)⟩
  case round =>
   obtain ⟨i, x, hi, rfl, rfl, HSO, HK⟩ := hrel
   obtain ⟨wr0, hwr0⟩ : ∃ x, x = wr := ⟨_, rfl⟩
   subst hwr0
   by_cases hlt : i < rules.length
   ·have hx := List.getElem?_eq_getElem hlt
    generalize hgx : rules[i] = r at hx
    clear hgx
    have hnx : Hid (stillR rules (i + 1) = (x && !r.media.isEmpty)) := Lib.hid (by rw [stillR_succ hx, HSO.out])
    obtain ⟨rb, ro, u, rfl, hcs, sv, dv, rfl, hss, hds⟩ := NestAt.at (rules_firm.kept HR6.out HK.out) hx
    obtain ⟨sa, sc, rfl, hsc1, hsc2⟩ := NestAt.form hss
    obtain ⟨da, dc, rfl, hdc1, hdc2⟩ := DeclsAt.form hds
    have r0 : wr0.cell? ⟨rb, ro + i * 5, none⟩ = some (.string (str r.media)) := hcs 0 _ rfl
    have r1 : wr0.cell? ⟨rb, ro + i * 5 + 1, none⟩ = some (.slice sa r.sels.length sc) := hcs 1 _ rfl
    have r2 : wr0.cell? ⟨rb, ro + i * 5 + 2, none⟩ = some (.slice da r.decls.length dc) := hcs 2 _ rfl
    have r3 : wr0.cell? ⟨rb, ro + i * 5 + 3, none⟩ = some (.int .i64 r.lo) := hcs 3 _ rfl
    have r4 : wr0.cell? ⟨rb, ro + i * 5 + 4, none⟩ = some (.int .i64 r.hi) := hcs 4 _ rfl
    clear hcs hss hds hx hsc1 hsc2 hdc1 hdc2
    go_upto_region 14 with fail
    obtain ⟨wA, HWA⟩ : ∃ x, Hid (wr0.alloc (.cells #[.string (str r.media), .slice sa r.sels.length sc, .slice da r.decls.length dc, .int .i64 r.lo, .int .i64 r.hi] 42 (0, 0)) = x) := ⟨_, Lib.hid rfl⟩
    have x0 : wA.cell? ⟨wr0.heap.size, 0, none⟩ = some (.string (str r.media)) := by rw [← HWA.out]; exact cellIn (newIn wr0 _) 0 rfl
    have HKA : Hid (Kept (fun _ => False) w6 wA) := Lib.hid (by rw [← HWA.out]; exact HK.out.alloc _)
    rw [HWA.out]
    clear r0 r1 r2 r3 r4
    cases x with
    | false =>
     go_wp2_with fail
     go_roundw
     case measure => simp [intOf]; omega
     case rel => exact ⟨i + 1, false, by omega, by go_num, rfl, hnx, HKA⟩
    | true =>
     cases hme : r.media.isEmpty with
     | true =>
      have hn2 : Hid (stillR rules (i + 1) = false) := Lib.hid (by rw [hnx.out, hme]; rfl)
      go_wp2_with fail
      go_roundw
      case measure => simp [intOf]; omega
      case rel => exact ⟨i + 1, false, by omega, by go_num, rfl, hn2, HKA⟩
     | false =>
      have hn2 : Hid (stillR rules (i + 1) = true) := Lib.hid (by rw [hnx.out, hme]; rfl)
      go_wp2_with fail
      go_roundw
      case measure => simp [intOf]; omega
      case rel => exact ⟨i + 1, true, by omega, by go_num, rfl, hn2, HKA⟩
   ·obtain rfl : i = rules.length := by omega
    have HKR := HK
    clear c0 c1
    go_wp2_with fail
    go_loopw [10, 72] (fun so c wr => ∃ (k : Nat) (z : Bool), k ≤ l.length ∧ c = .int .i64 (k : Int) ∧ so = .bool z ∧ Hid ((x && stillN l k) = z) ∧ Hid (Kept (fun _ => False) w6 wr)) (fun _ c _ => l.length - (intOf c).toNat)
    case atStart => exact ⟨0, x, by omega, rfl, rfl, Lib.hid (by cases x <;> rfl), HKR⟩
    case round =>
     obtain ⟨k, z, hk, rfl, rfl, HZ, HK⟩ := hrel
     obtain ⟨wr1, hwr1⟩ : ∃ x, x = wr := ⟨_, rfl⟩
     subst hwr1
     by_cases hlt : k < l.length
     ·have hx := List.getElem?_eq_getElem hlt
      generalize hgx : l[k] = n at hx
      clear hgx
      have hltm : k < ms.length := by rw [← HLEN.out]; exact hlt
      have hx2 := List.getElem?_eq_getElem (show k < ms.length by rw [← HLEN.out]; exact hlt)
      generalize hgx2 : ms[k] = n' at hx2
      clear hgx2
      obtain ⟨e1, e2, e3⟩ := fold_bare HF.out hx hx2
      obtain ⟨lb, lo, av, rfl, g0, g1, g2, g3, g4, g5, hav⟩ := (nodes_firm.kept HL6.out HK.out).at hx
      obtain ⟨mb, mo, av2, rfl, h0, h1, h2, h3, h4, h5, hav2⟩ := (nodes_firm.kept HM6.out HK.out).at hx2
      rw [e1] at h0
      rw [e2] at h1
      obtain ⟨aa, ac, rfl, hac1, hac2⟩ := hav.form
      obtain ⟨aa2, ac2, rfl, hac3, hac4⟩ := hav2.form
      unfold maxLen at hac2 hac4
      have hnl : n.attrs.length ≤ 8 := (page_lim HT.out.page).2.2.2 n (List.mem_of_getElem? hx)
      have hnl2 : n'.attrs.length ≤ 8 := (page_lim HF.out.dst.page).2.2.2 n' (List.mem_of_getElem? hx2)
      have HAV := Lib.hid hav
      have HAV2 := Lib.hid hav2
      have HX := Lib.hid hx
      have HX2 := Lib.hid hx2
      have HBE := Lib.hid e3
      obtain ⟨j0, hj0, hy0, hy1, hy2⟩ := info_parts info_attr''
      clear hav hav2 hx hx2 e1 e2 e3
      go_wp2_with fail
      go_loopw [10, 14, 81] (fun so av c wx => ∃ (j : Nat) (y : Bool), j ≤ n.attrs.length ∧ c = .int .i64 (j : Int) ∧ so = .bool y ∧ Hid ((z && stillA n.attrs j) = y) ∧ Hid (AG wr1 wx av (bare (n.attrs.take j)))) (fun _ _ c _ => n.attrs.length - (intOf c).toNat)
      case atStart => exact ⟨0, z, by omega, rfl, rfl, Lib.hid (by cases z <;> rfl), Lib.hid (AG.start _)⟩
      case round =>
       obtain ⟨j, y, hj, rfl, rfl, HY, HG⟩ := hrel
       obtain ⟨wx0, hwx0⟩ : ∃ x, x = wr := ⟨_, rfl⟩
       subst hwx0
       obtain ⟨ga, gc, hgv⟩ := HG.out.form
       subst hgv
       by_cases hlt2 : j < n.attrs.length
       ·have hat := List.getElem?_eq_getElem hlt2
        generalize hgat : n.attrs[j] = a at hat
        clear hgat
        obtain ⟨ab, aoff, rfl, a0, a1, a2, a3⟩ := AttrsAt.at (HAV.out.below HG.out.kept.below) hat
        have hyn : Hid ((z && stillA n.attrs (j + 1)) = (y && !(a.name == styleName))) := Lib.hid (by rw [stillA_succ hat, ← Bool.and_assoc, HY.out])
        have hbn := bare_succ hat
        have hbl := bare_len n.attrs j
        have HBN := Lib.hid hbn
        clear hat hbn
        go_upto_region 23 with fail
        obtain ⟨wy, HWY⟩ : ∃ x, Hid (wx0.alloc (.cells #[.string (str a.name), .string (str a.val), .int .i64 a.lo, .int .i64 a.hi] 47 (0, 0)) = x) := ⟨_, Lib.hid rfl⟩
        have hky : Kept (fun _ => False) wx0 wy := by rw [← HWY.out]; exact (Kept.refl _ wx0).alloc _
        have b0 : wy.cell? ⟨wx0.heap.size, 0, none⟩ = some (.string (str a.name)) := by rw [← HWY.out]; exact cellIn (newIn wx0 _) 0 rfl
        have b1 : wy.cell? ⟨wx0.heap.size, 1, none⟩ = some (.string (str a.val)) := by rw [← HWY.out]; exact cellIn (newIn wx0 _) 1 rfl
        have HGY := Lib.hid (HG.out.still hky)
        rw [HWY.out]
        clear hky a0 a1 a2 a3
        go_cut [10] (fun so wz => wz = wy ∧ so = .bool (y && !(a.name == styleName)))
        case first =>
         cases y with
         | false =>
          go_wp2_with fail
          go_meet
          case rel => exact ⟨rfl, rfl⟩
         | true =>
          cases hst : (a.name == styleName) with
          | true =>
           have hst' := hst
           unfold styleName at hst'
           go_wp2_with fail
           go_meet
           case rel => exact ⟨rfl, by rw [hst]; rfl⟩
          | false =>
           have hst' := hst
           unfold styleName at hst'
           go_wp2_with fail
           go_meet
           case rel => exact ⟨rfl, by rw [hst]; rfl⟩
        case rest =>
         obtain ⟨rfl, rfl⟩ := hcut
         obtain ⟨y2, HY2⟩ : ∃ q, Hid ((y && !(a.name == styleName)) = q) := ⟨_, Lib.hid rfl⟩
         rw [HY2.out]
         have hyn2 : Hid ((z && stillA n.attrs (j + 1)) = y2) := Lib.hid (hyn.out.trans HY2.out)
         cases hst : (a.name == styleName) with
         | true =>
          have hb2 : bare (n.attrs.take (j + 1)) = bare (n.attrs.take j) := by rw [HBN.out, if_pos hst, List.append_nil]
          have HGN : Hid (AG wr1 wc (.slice ga (bare (n.attrs.take j)).length gc) (bare (n.attrs.take (j + 1)))) := Lib.hid (by rw [hb2]; exact HGY.out)
          unfold styleName at hst
          clear hb2
          go_wp2_with fail
          go_roundw
          case measure => simp [intOf]; omega
          case rel => exact ⟨j + 1, y2, by omega, by go_num, rfl, hyn2, HGN⟩
         | false =>
          have hb2 : bare (n.attrs.take (j + 1)) = bare (n.attrs.take j) ++ [bareOf a] := by rw [HBN.out, if_neg (by rw [hst]; simp)]
          have HB2 := Lib.hid hb2
          unfold styleName at hst
          have hwz : wr1.heap.size ≤ wc.heap.size := HGY.out.kept.size
          obtain ⟨Bj, HBJ⟩ : ∃ q, Hid (bare (n.attrs.take j) = q) := ⟨_, Lib.hid rfl⟩
          rw [HBJ.out] at HGY hbl HB2 ⊢
          clear hb2 HBN HG
          go_wp2_with (at_builtin; refine wpList_append_lies _ rfl _ _ _ rfl wr1.heap.size 47 j0 _ 4 48 Tryz.underlying43 hj0 hy0 hy1 hy2 rfl (by omega) _ Bj.length _ (by rfl) (HGY.out.own.alloc _) ⟨wc.heap.size, 0, none⟩ 1 1 [.string (str a.name), .string (str a.val), .int .i64 0, .int .i64 0] (by rfl) (by rfl) (World.news_of_block (cs := #[.string (str a.name), .string (str a.val), .int .i64 0, .int .i64 0]) (t := 47) (fr := (0, 0)) (heap_alloc_new wc _)) (by simp [Value.oneCell']) (by omega) (by unfold maxLen; omega) (by omega) (by simp; omega) (wc.heap.size + 1) (by simp) ?_; intro gg cap w11 hown11 hgrow11 hat11 hlt11)
          have HGN : Hid (AG wr1 w11 (.slice (some ⟨gg, 0, none⟩) (Bj.length + 1) cap) (Bj ++ [bareOf a])) := Lib.hid (AG.push rfl HGY.out hown11 ⟨hgrow11.os, hgrow11.tape, hgrow11.output, hgrow11.size, hgrow11.block⟩)
          clear hown11 hgrow11 hat11 hlt11
          go_wp2_with fail
          go_roundw
          case measure => simp [intOf]; omega
          case rel => exact ⟨j + 1, y2, by omega, by go_num, rfl, hyn2, by rw [HB2.out]; exact HGN⟩
       ·obtain rfl : j = n.attrs.length := by omega
        rw [List.take_length] at HG
        have hbl := bare_len n.attrs n.attrs.length
        rw [List.take_length] at hbl ⊢
        obtain ⟨B1, HB1⟩ : ∃ q, Hid (bare n.attrs = q) := ⟨_, Lib.hid rfl⟩
        rw [HB1.out] at HG hbl ⊢
        have HKX : Hid (Kept (fun _ => False) w6 wx0) := Lib.hid (HK.out.trans HG.out.kept)
        have HAT1 := Lib.hid HG.out.reads
        have hbe2 : bare n'.attrs = B1 := HBE.out.trans HB1.out
        have HBE2 := Lib.hid hbe2
        obtain ⟨lb', lo', av', hlv, g0', g1', g2', g3', g4', g5', hav'⟩ := (nodes_firm.kept HL6.out HKX.out).at HX.out
        obtain ⟨mb', mo', av2', hmv, h0', h1', h2', h3', h4', h5', hav2'⟩ := (nodes_firm.kept HM6.out HKX.out).at HX2.out
        cases hlv
        cases hmv
        have h2n : wx0.cell? ⟨mb, mo + k * 6 + 2, none⟩ = some (.slice aa2 n'.attrs.length ac2) := HG.out.kept.cell id h2
        clear hbe2 hav' hav2' g0' g1' g2' g3' g4' g5' h0' h1' h2' h3' h4' h5' g0 g1 g2 g3 g4 g5 h0 h1 h2 h3 h4 h5
        go_wp2_with fail
        go_loopw [15, 109] (fun av c wx => ∃ j : Nat, j ≤ n'.attrs.length ∧ c = .int .i64 (j : Int) ∧ Hid (AG wx0 wx av (bare (n'.attrs.take j)))) (fun _ c _ => n'.attrs.length - (intOf c).toNat)
        case atStart => exact ⟨0, by omega, rfl, Lib.hid (AG.start _)⟩
        case round =>
         obtain ⟨j, hj, rfl, HG2⟩ := hrel
         obtain ⟨wz0, hwz0⟩ : ∃ x, x = wr := ⟨_, rfl⟩
         subst hwz0
         obtain ⟨ga2, gc2, hgv2⟩ := HG2.out.form
         subst hgv2
         by_cases hlt3 : j < n'.attrs.length
         ·have hat := List.getElem?_eq_getElem hlt3
          generalize hgat : n'.attrs[j] = a at hat
          clear hgat
          obtain ⟨ab, aoff, rfl, a0, a1, a2, a3⟩ := AttrsAt.at (HAV2.out.below ((HG.out.kept.trans HG2.out.kept).below)) hat
          have hbn := bare_succ hat
          have hbl2 := bare_len n'.attrs j
          have HBN := Lib.hid hbn
          clear hat hbn
          go_upto_region 30 with fail
          obtain ⟨wy, HWY⟩ : ∃ x, Hid (wz0.alloc (.cells #[.string (str a.name), .string (str a.val), .int .i64 a.lo, .int .i64 a.hi] 47 (0, 0)) = x) := ⟨_, Lib.hid rfl⟩
          have hky : Kept (fun _ => False) wz0 wy := by rw [← HWY.out]; exact (Kept.refl _ wz0).alloc _
          have b0 : wy.cell? ⟨wz0.heap.size, 0, none⟩ = some (.string (str a.name)) := by rw [← HWY.out]; exact cellIn (newIn wz0 _) 0 rfl
          have b1 : wy.cell? ⟨wz0.heap.size, 1, none⟩ = some (.string (str a.val)) := by rw [← HWY.out]; exact cellIn (newIn wz0 _) 1 rfl
          have HGY := Lib.hid (HG2.out.still hky)
          rw [HWY.out]
          clear hky a0 a1 a2 a3
          cases hst : (a.name == styleName) with
          | true =>
           have hb2 : bare (n'.attrs.take (j + 1)) = bare (n'.attrs.take j) := by rw [HBN.out, if_pos hst, List.append_nil]
           have HGN : Hid (AG wx0 wy (.slice ga2 (bare (n'.attrs.take j)).length gc2) (bare (n'.attrs.take (j + 1)))) := Lib.hid (by rw [hb2]; exact HGY.out)
           unfold styleName at hst
           clear hb2
           go_wp2_with fail
           go_roundw
           case measure => simp [intOf]; omega
           case rel => exact ⟨j + 1, by omega, by go_num, HGN⟩
          | false =>
           have hb2 : bare (n'.attrs.take (j + 1)) = bare (n'.attrs.take j) ++ [bareOf a] := by rw [HBN.out, if_neg (by rw [hst]; simp)]
           have HB2 := Lib.hid hb2
           unfold styleName at hst
           have hwz : wx0.heap.size ≤ wy.heap.size := HGY.out.kept.size
           obtain ⟨Bj, HBJ⟩ : ∃ q, Hid (bare (n'.attrs.take j) = q) := ⟨_, Lib.hid rfl⟩
           rw [HBJ.out] at HGY hbl2 HB2 ⊢
           clear hb2 HBN HG2
           go_wp2_with (at_builtin; refine wpList_append_lies _ rfl _ _ _ rfl wx0.heap.size 47 j0 _ 4 48 Tryz.underlying43 hj0 hy0 hy1 hy2 rfl (by omega) _ Bj.length _ (by rfl) (HGY.out.own.alloc _) ⟨wy.heap.size, 0, none⟩ 1 1 [.string (str a.name), .string (str a.val), .int .i64 0, .int .i64 0] (by rfl) (by rfl) (World.news_of_block (cs := #[.string (str a.name), .string (str a.val), .int .i64 0, .int .i64 0]) (t := 47) (fr := (0, 0)) (heap_alloc_new wy _)) (by simp [Value.oneCell']) (by omega) (by unfold maxLen; omega) (by omega) (by simp; omega) (wy.heap.size + 1) (by simp) ?_; intro gg cap w11 hown11 hgrow11 hat11 hlt11)
           have HGN : Hid (AG wx0 w11 (.slice (some ⟨gg, 0, none⟩) (Bj.length + 1) cap) (Bj ++ [bareOf a])) := Lib.hid (AG.push rfl HGY.out hown11 ⟨hgrow11.os, hgrow11.tape, hgrow11.output, hgrow11.size, hgrow11.block⟩)
           clear hown11 hgrow11 hat11 hlt11
           go_wp2_with fail
           go_roundw
           case measure => simp [intOf]; omega
           case rel => exact ⟨j + 1, by omega, by go_num, by rw [HB2.out]; exact HGN⟩
         ·obtain rfl : j = n'.attrs.length := by omega
          rw [List.take_length, HBE2.out] at HG2 ⊢
          have hzn : Hid ((x && stillN l (k + 1)) = y) := Lib.hid (by rw [stillN_succ HX.out, ← Bool.and_assoc, HZ.out]; exact HY.out)
          have HKZ : Hid (Kept (fun _ => False) w6 wz0) := Lib.hid (HKX.out.trans HG2.out.kept)
          have HA1 : Hid (AttrsAt wz0 (.slice ga B1.length gc) B1) := Lib.hid (HAT1.out.below HG2.out.kept.below)
          have HA2 := Lib.hid HG2.out.reads
          obtain ⟨e1, e2, e3⟩ := fold_bare HF.out HX.out HX2.out
          clear e3
          obtain ⟨lb', lo', av', hlv, g0, g1, g2', g3', g4', g5', hav'⟩ := (nodes_firm.kept HL6.out HKZ.out).at HX.out
          obtain ⟨mb', mo', av2', hmv, h0, h1, h2', h3', h4', h5', hav2'⟩ := (nodes_firm.kept HM6.out HKZ.out).at HX2.out
          cases hlv
          cases hmv
          rw [e1] at h0
          rw [e2] at h1
          clear e1 e2 g2' g3' g4' g5' h2' h3' h4' h5' hav' hav2' h2n HG2
          have HSN : Hid (∀ (wx : World) (b1 b2 : Nat), Kept (fun _ => False) wz0 wx → wx.heap[b1]? = some (.cells #[.string ⟨#[]⟩, .int .i64 0, .slice ga B1.length gc, .int .i64 0, .int .i64 0, .int .i64 0] 45 (0, 0)) → wx.heap[b2]? = some (.cells #[.string ⟨#[]⟩, .int .i64 0, .slice ga2 B1.length gc2, .int .i64 0, .int .i64 0, .int .i64 0] 45 (0, 0)) →
            Calls Tryz.prog 15 #[.slice (some ⟨b1, 0, none⟩) 1 1, .slice (some ⟨b2, 0, none⟩) 1 1] wx fun e w' => e = .returned (.bool true) ∧ Qt wx w') := Lib.hid (fun wx b1 b2 hk h1 h2 =>
           same_any wx _ _ [⟨[], 0, B1, 0, 0, 0⟩] (nodes_bare h1 (HA1.out.below hk.below)) (nodes_bare h2 (HA2.out.below hk.below)))
          have HE1 : Hid (((wz0.alloc (.cells #[.string ⟨#[]⟩, .int .i64 0, .slice ga B1.length gc, .int .i64 0, .int .i64 0, .int .i64 0] 45 (0, 0))).alloc (.cells #[.string ⟨#[]⟩, .int .i64 0, .slice ga2 B1.length gc2, .int .i64 0, .int .i64 0, .int .i64 0] 45 (0, 0))).heap[wz0.heap.size]? = some (.cells #[.string ⟨#[]⟩, .int .i64 0, .slice ga B1.length gc, .int .i64 0, .int .i64 0, .int .i64 0] 45 (0, 0))) := Lib.hid (oldIn (newIn wz0 _) _)
          have HE2 : Hid (((wz0.alloc (.cells #[.string ⟨#[]⟩, .int .i64 0, .slice ga B1.length gc, .int .i64 0, .int .i64 0, .int .i64 0] 45 (0, 0))).alloc (.cells #[.string ⟨#[]⟩, .int .i64 0, .slice ga2 B1.length gc2, .int .i64 0, .int .i64 0, .int .i64 0] 45 (0, 0))).heap[wz0.heap.size + 1]? = some (.cells #[.string ⟨#[]⟩, .int .i64 0, .slice ga2 B1.length gc2, .int .i64 0, .int .i64 0, .int .i64 0] 45 (0, 0))) := Lib.hid (by
           have := newIn (wz0.alloc (.cells #[.string ⟨#[]⟩, .int .i64 0, .slice ga B1.length gc, .int .i64 0, .int .i64 0, .int .i64 0] 45 (0, 0))) (.cells #[.string ⟨#[]⟩, .int .i64 0, .slice ga2 B1.length gc2, .int .i64 0, .int .i64 0, .int .i64 0] 45 (0, 0))
           simpa using this)
          have HE3 : Hid (((wz0.alloc (.cells #[.string ⟨#[]⟩, .int .i64 0, .slice ga2 B1.length gc2, .int .i64 0, .int .i64 0, .int .i64 0] 45 (0, 0))).alloc (.cells #[.string ⟨#[]⟩, .int .i64 0, .slice ga B1.length gc, .int .i64 0, .int .i64 0, .int .i64 0] 45 (0, 0))).heap[wz0.heap.size]? = some (.cells #[.string ⟨#[]⟩, .int .i64 0, .slice ga2 B1.length gc2, .int .i64 0, .int .i64 0, .int .i64 0] 45 (0, 0))) := Lib.hid (oldIn (newIn wz0 _) _)
          have HE4 : Hid (((wz0.alloc (.cells #[.string ⟨#[]⟩, .int .i64 0, .slice ga2 B1.length gc2, .int .i64 0, .int .i64 0, .int .i64 0] 45 (0, 0))).alloc (.cells #[.string ⟨#[]⟩, .int .i64 0, .slice ga B1.length gc, .int .i64 0, .int .i64 0, .int .i64 0] 45 (0, 0))).heap[wz0.heap.size + 1]? = some (.cells #[.string ⟨#[]⟩, .int .i64 0, .slice ga B1.length gc, .int .i64 0, .int .i64 0, .int .i64 0] 45 (0, 0))) := Lib.hid (by
           have := newIn (wz0.alloc (.cells #[.string ⟨#[]⟩, .int .i64 0, .slice ga2 B1.length gc2, .int .i64 0, .int .i64 0, .int .i64 0] 45 (0, 0))) (.cells #[.string ⟨#[]⟩, .int .i64 0, .slice ga B1.length gc, .int .i64 0, .int .i64 0, .int .i64 0] 45 (0, 0))
           simpa using this)
          go_upto_region 33 with fail
          go_region_held3 (fun w' => w'.cell? ⟨lb, lo + k * 6, none⟩ = some (.string (str n.name)) ∧ w'.cell? ⟨lb, lo + k * 6 + 1, none⟩ = some (.int .i64 n.parent) ∧ w'.cell? ⟨mb, mo + k * 6, none⟩ = some (.string (str n.name)) ∧ w'.cell? ⟨mb, mo + k * 6 + 1, none⟩ = some (.int .i64 n.parent)) (first | go_keep | exact ⟨hk8.out.cell id g0, hk8.out.cell id g1, hk8.out.cell id h0, hk8.out.cell id h1⟩) ((go_at_call 15; refine (HSN.out _ _ _ (by first | exact (((Kept.refl _ wz0).alloc _).alloc _).drew | exact ((Kept.refl _ wz0).alloc _).alloc _ | exact (((Kept.refl _ wz0).drew).alloc _).alloc _ | exact (((Kept.refl _ wz0).alloc _).drew).alloc _) (by first | exact HE1.out | exact HE4.out) (by first | exact HE2.out | exact HE3.out)).mono ?_; rintro e w8 ⟨rfl, hq8⟩; (have hk8 : Kept (fun _ => False) wz0 w8 := by first | exact ((((Kept.refl _ wz0).alloc _).alloc _).drew).trans (hq8.kept _) | exact (((Kept.refl _ wz0).alloc _).alloc _).trans (hq8.kept _) | exact ((((Kept.refl _ wz0).drew).alloc _).alloc _).trans (hq8.kept _) | exact ((((Kept.refl _ wz0).alloc _).drew).alloc _).trans (hq8.kept _)); (replace hk8 := Lib.hid hk8); clear hq8))
          all_goals
           go_wp2_with fail
           go_roundw
           case measure => simp [intOf]; omega
           case rel => exact ⟨k + 1, y, by omega, by go_num, rfl, hzn, Lib.hid (HKZ.out.trans hk8.out)⟩
     ·obtain rfl : k = l.length := by omega
      cases z with
      | false =>
       go_wp2_with fail
       go_ret
       exact ⟨rfl, HK6.out.trans HK.out⟩
      | true =>
       have hst2 : s = t := by
        have h1 := HZ.out
        rw [Bool.and_eq_true] at h1
        have h2 := HSO.out
        rw [h1.1] at h2
        exact still_end HT.out HST.out HFF.out h2 h1.2
       have hss : (s == t) = true := by rw [hst2]; exact beq_self_eq_true _
       clear hst2
       go_wp2_with fail
       go_ret
       exact ⟨rfl, HK6.out.trans HK.out⟩
end Go.Proofs.YtplbdlgmjehckacGreatDoor

