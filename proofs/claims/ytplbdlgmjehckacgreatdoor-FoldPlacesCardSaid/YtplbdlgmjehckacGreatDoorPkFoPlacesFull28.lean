/-
 Lemmas for the claims of this seat: the program's functions walked, and plain laws. In this order: FoLawPlaces.
-/
import Derived.Test.YtplbdlgmjehckacGreatDoorPk26
import Derived.Test.YtplbdlgmjehckacGreatDoorPkFoPlacesFull27
namespace Go.Proofs.YtplbdlgmjehckacGreatDoor
open Go.RowKit
set_option linter.unusedVariables false
set_option linter.unusedSimpArgs false
theorem page_of {s : B} {l : List PNode} {rules : List PRule} {T : PT} (R : ReadAs s l rules T) : pParse s = .ok l := by
 rw [R.text, R.nodes]
 exact page_read R.wf (by rw [← R.text]; exact R.len) R.few
theorem runs_from {s : B} : ∀ (al : List PAttr) (p j : Nat), runsA s p al → j ≤ al.length → runsA s (behindA p (al.take j)) (al.drop j) ∧ (∀ k a, k < j → al[k]? = some a → a.lo < (behindA p (al.take j) : Int)) ∧ p ≤ behindA p (al.take j)
 | [], p, j, h, hj => by
  simp only [List.length_nil, Nat.le_zero] at hj
  subst hj
  exact ⟨h, fun k a hk => by omega, Nat.le_refl _⟩
 | a :: al, p, 0, h, hj => ⟨h, fun k a hk => by omega, Nat.le_refl _⟩
 | a :: al, p, j + 1, h, hj => by
  obtain ⟨h1, h2, h3, h4⟩ := h
  obtain ⟨i1, i2, i3⟩ := runs_from al a.hi.toNat j h4 (by simpa using hj)
  simp only [List.take_succ_cons, List.drop_succ_cons, behindA]
  refine ⟨i1, fun k x hk hx => ?_, by omega⟩
  cases k with
  | zero => simp at hx; subst hx; omega
  | succ k => exact i2 k x (by omega) (by simpa using hx)
theorem behind_succ : ∀ {al : List PAttr} {p j : Nat} {a : PAttr}, al[j]? = some a → behindA p (al.take (j + 1)) = a.hi.toNat
 | [], _, _, _, h => by simp at h
 | x :: al, p, 0, a, h => by
  simp at h
  subst h
  simp [behindA]
 | x :: al, p, j + 1, a, h => by
  rw [List.take_succ_cons]
  simp only [behindA]
  exact behind_succ (by simpa using h)
theorem runs_lt {s : B} {p : Nat} : ∀ {al : List PAttr}, runsA s p al → ∃ c, s[p]? = some c ∧ (al = [] → c = 62) ∧ (al ≠ [] → c = 32)
 | [], h => ⟨_, h, fun _ => rfl, fun h => absurd rfl h⟩
 | a :: al, h => ⟨_, h.2.1, fun h => (by cases h), fun _ => rfl⟩
set_option maxRecDepth 100000 in
set_option maxHeartbeats 6400000 in
theorem rest_any (s : B) (l : List PNode) (hp : pParse s = .ok l) (hr : restOk s 0 l) (m : Int) (w : World) (hm : w.cell? ⟨0, 0, none⟩ = some (.int .i64 m)) :
  Calls Tryz.prog 24 #[.string (str s)] w fun e w' => e = .returned (.string (str (restF s 0 l))) ∧ Kept (fun _ => False) w w' := by
 have hlim := page_lim hp
 have hs6 := hlim.1
 have hl120 := hlim.2.1
 have HCP := parse_any s w m hm (by omega)
 rw [hp] at HCP
 replace HCP := Lib.hid HCP
 obtain ⟨R, HR⟩ : ∃ x, Hid (restF s 0 l = x) := ⟨_, Lib.hid rfl⟩
 rw [HR.out]
 have HR0 := Lib.hid hr
 have HATT := Lib.hid hlim.2.2.2
 clear hlim hp hm hr
 go_enter Tryz.func24, Tryz.ntmps24
 go_wp2_with fail
 refine HCP.out.mono ?_
 rintro e w1 ⟨lv, rfl, hb1, hl1⟩
 obtain ⟨la, lc, rfl, hlc1, hlc2⟩ := hl1.form
 unfold maxLen at hlc2
 obtain ⟨wb, HWB⟩ : ∃ x, Hid (w1.alloc (.cells #[.int .i64 0, .int .i64 0] 26 (0, 0)) = x) := ⟨_, rfl⟩
 have hkb : Kept (fun _ => False) w1 wb := by rw [← HWB.out]; exact (Kept.refl _ w1).alloc _
 have HL := Lib.hid (nodes_firm.kept hl1 hkb)
 have HKB := Lib.hid ((Kept.of_below (S := fun _ => False) hb1).trans hkb)
 clear hb1 hl1 hkb
 go_upto_region 2 with fail
 rw [HWB.out]
 go_wp2_with fail
 go_loopw [5, 6, 19] (fun ov av c wr => ∃ (i a : Nat) (o : B), i ≤ l.length ∧ c = .int .i64 (i : Int) ∧ av = .int .i64 (a : Int) ∧ ov = .string (str o) ∧ o.length ≤ 6000 * i ∧ Hid (o ++ restF s a (l.drop i) = R) ∧ Hid (restOk s a (l.drop i)) ∧ Hid (Kept (fun _ => False) wb wr)) (fun _ _ c _ => l.length - (intOf c).toNat)
 case atStart => exact ⟨0, 0, [], by omega, rfl, rfl, rfl, by simp, Lib.hid HR.out, HR0, Lib.hid (Kept.refl _ _)⟩
 case round =>
  obtain ⟨i, a, o, hi, rfl, rfl, rfl, hol, HE, HO, HK⟩ := hrel
  obtain ⟨wr0, hwr0⟩ : ∃ x, x = wr := ⟨_, rfl⟩
  subst hwr0
  by_cases hlt : i < l.length
  ·have hx := List.getElem?_eq_getElem hlt
   have hdr := List.drop_eq_getElem_cons hlt
   generalize hgx : l[i] = n at hx hdr
   clear hgx
   obtain ⟨lb, lo, av, rfl, g0, g1, g2, g3, g4, g5, hav⟩ := (nodes_firm.kept HL.out HK.out).at hx
   obtain ⟨aa, ac, rfl, hac1, hac2⟩ := hav.form
   unfold maxLen at hac2
   have he := HE.out
   have ho := HO.out
   rw [hdr] at he ho
   obtain ⟨k1, k2, k3, k4, k5⟩ := ho
   obtain ⟨q, hq⟩ : ∃ q : Nat, n.nameEnd = (q : Int) := ⟨n.nameEnd.toNat, by omega⟩
   obtain ⟨tq, htq⟩ : ∃ q : Nat, n.inT = (q : Int) := ⟨n.inT.toNat, by omega⟩
   rw [hq] at g3 k1 k2 k3
   rw [htq] at g5
   rw [Int.toNat_natCast] at k2 k3
   have hn8 : n.attrs.length ≤ 8 := HATT.out n (List.mem_of_getElem? hx)
   have hre : Hid ((o ++ sub s a q) ++ restF s (restTo n) (l.drop (i + 1)) = R) := Lib.hid (by
    rw [← he]; simp only [restF, List.append_assoc, hq, Int.toNat_natCast])
   have hto : Hid (restTo n = if n.name = styleName then tq else behindA q n.attrs) := Lib.hid (by
    unfold restTo; rw [hq, htq, Int.toNat_natCast, Int.toNat_natCast])
   have HRA := Lib.hid k3
   have HAV := Lib.hid hav
   have HK5 := Lib.hid k5
   have haq : a ≤ q := by omega
   obtain ⟨wy, HWY⟩ : ∃ x, Hid (wr0.alloc (.cells #[.string (str n.name), .int .i64 n.parent, .slice aa n.attrs.length ac, .int .i64 (q : Int), .int .i64 n.inF, .int .i64 (tq : Int)] 45 (0, 0)) = x) := ⟨_, Lib.hid rfl⟩
   have hky : Kept (fun _ => False) wr0 wy := by rw [← HWY.out]; exact (Kept.refl _ wr0).alloc _
   have hy : wy.heap[wr0.heap.size]? = some (.cells #[.string (str n.name), .int .i64 n.parent, .slice aa n.attrs.length ac, .int .i64 (q : Int), .int .i64 n.inF, .int .i64 (tq : Int)] 45 (0, 0)) := by rw [← HWY.out]; exact newIn wr0 _
   have y3 := cellIn hy 3 rfl
   have HY := Lib.hid hy
   have HKY := Lib.hid hky
   clear he k3 k5 hx hdr hav hky hy
   go_upto_region 6 with fail
   rw [HWY.out]
   clear g0 g1 g2 g3 g4 g5
   have hsub : List.take (q - a) (List.drop a s) = sub s a q := rfl
   have hsl : (sub s a q).length = q - a := sub_len s haq k2
   obtain ⟨sb, HSB⟩ : ∃ x, Hid (sub s a q = x) := ⟨_, Lib.hid rfl⟩
   rw [HSB.out] at hsub hsl hre
   go_upto_block 2 with fail
   go_cut [6] (fun av wx => av = .int .i64 ((behindA q n.attrs : Nat) : Int) ∧ Hid (Kept (fun _ => False) wy wx))
   case first =>
    go_wp2_with fail
    go_loopw [6] (fun pv wx => ∃ (j p : Nat), j ≤ n.attrs.length ∧ pv = .int .i64 (p : Int) ∧ Hid (behindA q (n.attrs.take j) = p) ∧ Hid (Kept (fun _ => False) wy wx)) (fun pv _ => s.length - (intOf pv).toNat)
    case atStart => exact ⟨0, q, by omega, rfl, Lib.hid rfl, Lib.hid (Kept.refl _ _)⟩
    case round =>
     obtain ⟨j, p, hj, rfl, HP, HKX⟩ := hrel
     obtain ⟨wx0, hwx0⟩ : ∃ x, x = wr := ⟨_, rfl⟩
     subst hwx0
     obtain ⟨hrj, hlo, hge⟩ := runs_from n.attrs q j HRA.out hj
     rw [HP.out] at hrj hlo hge
     obtain ⟨c, hc, hc1, hc2⟩ := runs_lt hrj
     obtain ⟨hps, hsp⟩ := List.getElem?_eq_some_iff.1 hc
     have hpI : (p : Int) < (s.length : Int) := by omega
     have hp0 : (0 : Int) ≤ (p : Int) := by omega
     by_cases hlt2 : j < n.attrs.length
     ·have hat := List.getElem?_eq_getElem hlt2
      have hdj := List.drop_eq_getElem_cons hlt2
      generalize hgat : n.attrs[j] = a1 at hat hdj
      clear hgat
      rw [hdj] at hrj hc1 hc2
      have hcc : c = 32 := hc2 (by simp)
      obtain ⟨l1, l2, l3, l4⟩ := hrj
      obtain ⟨h1, hh1⟩ : ∃ h : Nat, a1.hi = (h : Int) := ⟨a1.hi.toNat, by omega⟩
      have HNEXT : Hid (behindA q (n.attrs.take (j + 1)) = h1) := Lib.hid (by rw [behind_succ hat, hh1]; rfl)
      have hb62 : (((s[p]'hps).toNat : Int) != 62) = true := by rw [hsp, hcc]; rfl
      have HLO : Hid (∀ (k : Nat) (x : PAttr), k < j → n.attrs[k]? = some x → (x.lo == (p : Int)) = false) := Lib.hid (fun k x hk hx => by
       have := hlo k x hk hx
       rw [beq_eq_false_iff_ne]; omega)
      have HAT := Lib.hid hat
      have hl1 : (a1.lo == (p : Int)) = true := by rw [l1]; exact beq_self_eq_true _
      have HL1 := Lib.hid hl1
      have x2 : wx0.cell? ⟨wr0.heap.size, 2, none⟩ = some (.slice aa n.attrs.length ac) := cellIn (HKX.out.heap id HY.out) 2 rfl
      have hh1p : p < h1 := by omega
      clear hlo hc hc1 hc2 hdj hat l1 l2 l4 hl1
      go_upto_block 4 with fail
      go_cut [6, 9] (fun pv bv wz => pv = .int .i64 (h1 : Int) ∧ bv = .bool true ∧ Hid (Kept (fun _ => False) wx0 wz))
      case first =>
       go_wp2_with fail
       go_loopw [6, 45] (fun pv c wz => ∃ k : Nat, k ≤ j ∧ c = .int .i64 (k : Int) ∧ pv = .int .i64 (p : Int) ∧ Hid (Kept (fun _ => False) wx0 wz)) (fun _ c _ => n.attrs.length - (intOf c).toNat)
       case atStart => exact ⟨0, by omega, rfl, rfl, Lib.hid (Kept.refl _ _)⟩
       case round =>
        obtain ⟨k, hk, rfl, rfl, HKZ⟩ := hrel
        obtain ⟨wz0, hwz0⟩ : ∃ x, x = wr := ⟨_, rfl⟩
        subst hwz0
        have hkl : k < n.attrs.length := by omega
        have hx := List.getElem?_eq_getElem hkl
        generalize hgx : n.attrs[k] = x at hx
        clear hgx
        obtain ⟨ab, aoff, rfl, a0, a1', a2, a3⟩ := AttrsAt.at (HAV.out.below (((HKY.out.trans HKX.out).trans HKZ.out).below)) hx
        have HXX := Lib.hid hx
        clear hx
        go_upto_region 13 with fail
        obtain ⟨wv, HWV⟩ : ∃ y, Hid (wz0.alloc (.cells #[.string (str x.name), .string (str x.val), .int .i64 x.lo, .int .i64 x.hi] 47 (0, 0)) = y) := ⟨_, Lib.hid rfl⟩
        have v2 : wv.cell? ⟨wz0.heap.size, 2, none⟩ = some (.int .i64 x.lo) := by rw [← HWV.out]; exact cellIn (newIn wz0 _) 2 rfl
        have v3 : wv.cell? ⟨wz0.heap.size, 3, none⟩ = some (.int .i64 x.hi) := by rw [← HWV.out]; exact cellIn (newIn wz0 _) 3 rfl
        have HKV : Hid (Kept (fun _ => False) wx0 wv) := Lib.hid (by rw [← HWV.out]; exact HKZ.out.alloc _)
        rw [HWV.out]
        clear a0 a1' a2 a3
        by_cases hkj : k < j
        ·have hne := HLO.out k x hkj HXX.out
         go_wp2_with fail
         go_roundw
         case measure => simp [intOf]; omega
         case rel => exact ⟨k + 1, by omega, by go_num, rfl, HKV⟩
        ·obtain rfl : k = j := by omega
         have hxa : x = a1 := Option.some.inj (HXX.out.symm.trans HAT.out)
         subst hxa
         have hll := HL1.out
         rw [hh1] at v3
         go_wp2_with fail
         go_meet
         case rel => exact ⟨rfl, rfl, HKV⟩
      case rest =>
       obtain ⟨rfl, rfl, HKC⟩ := hcut
       clear x2
       go_wp2_with fail
       go_roundw
       case measure => simp [intOf]; omega
       case rel => exact ⟨j + 1, h1, by omega, rfl, HNEXT, Lib.hid (HKX.out.trans HKC.out)⟩
     ·obtain rfl : j = n.attrs.length := by omega
      rw [List.drop_length] at hc1
      have hcc : c = 62 := hc1 rfl
      have hb62 : (((s[p]'hps).toNat : Int) != 62) = false := by rw [hsp, hcc]; rfl
      have hpe := HP.out
      rw [List.take_length] at hpe
      have HPE := Lib.hid hpe
      clear hpe hrj hlo hc hc1 hc2
      go_wp2_with fail
      go_meet
      case rel => exact ⟨by rw [HPE.out], HKX⟩
   case rest =>
    obtain ⟨rfl, HKC⟩ := hcut
    have z0 := cellIn (HKC.out.heap id HY.out) 0 rfl
    have z5 := cellIn (HKC.out.heap id HY.out) 5 rfl
    have HKN : Hid (Kept (fun _ => False) wb wc) := Lib.hid ((HK.out.trans HKY.out).trans HKC.out)
    clear y3
    cases hst : (n.name == styleName) with
    | true =>
     have hto2 := hto.out
     rw [if_pos (by simpa using hst)] at hto2
     have HRE : Hid ((o ++ sb) ++ restF s tq (l.drop (i + 1)) = R) := Lib.hid (by rw [← hto2]; exact hre.out)
     have HOK : Hid (restOk s tq (l.drop (i + 1))) := Lib.hid (by rw [← hto2]; exact HK5.out)
     unfold styleName at hst
     clear hto2
     go_wp2_with fail
     go_roundw
     case measure => simp [intOf]; omega
     case rel => exact ⟨i + 1, tq, o ++ sb, by omega, by go_num, rfl, rfl, by rw [List.length_append]; omega, HRE, HOK, HKN⟩
    | false =>
     have hto2 := hto.out
     rw [if_neg (by simpa using hst)] at hto2
     obtain ⟨pe, HPE⟩ : ∃ x, Hid (behindA q n.attrs = x) := ⟨_, Lib.hid rfl⟩
     rw [HPE.out] at hto2 ⊢
     have HRE : Hid ((o ++ sb) ++ restF s pe (l.drop (i + 1)) = R) := Lib.hid (by rw [← hto2]; exact hre.out)
     have HOK : Hid (restOk s pe (l.drop (i + 1))) := Lib.hid (by rw [← hto2]; exact HK5.out)
     unfold styleName at hst
     clear hto2
     go_wp2_with fail
     go_roundw
     case measure => simp [intOf]; omega
     case rel => exact ⟨i + 1, pe, o ++ sb, by omega, by go_num, rfl, rfl, by rw [List.length_append]; omega, HRE, HOK, HKN⟩
  ·obtain rfl : i = l.length := by omega
   have he := HE.out
   have ho := HO.out
   rw [List.drop_length] at he ho
   have hal : a ≤ s.length := ho
   have hdl : (s.drop a).length = s.length - a := List.length_drop
   have HEE : Hid (str (o ++ s.drop a) = str R) := Lib.hid (congrArg str he)
   clear he ho
   go_wp2_with fail
   go_ret
   exact ⟨rets HEE.out, HKB.out.trans HK.out⟩
set_option maxRecDepth 100000 in
set_option maxHeartbeats 6400000 in
theorem foldPlaces_any (s : B) (m : Int) (w : World) (hm : w.cell? ⟨0, 0, none⟩ = some (.int .i64 m)) (hs : s.length ≤ 9223372036854775807) :
  Calls Tryz.prog 8 #[.string (str s)] w fun e w' => e = .returned (.bool true) ∧ Kept (fun _ => False) w w' := by
 have HA := Lib.hid (alive6_any w m hm)
 have HM := Lib.hid hm
 clear hm
 go_enter Tryz.func8, Tryz.ntmps8
 go_wp2_with (go_at_call 21; refine HA.out.mono ?_; rintro e w1 ⟨rfl, hk1⟩)
 refine (fold_ways s m w1 (hk1.cell id HM.out) hs).mono ?_
 rintro e w2 ⟨hk2, h⟩
 have HK2 := Lib.hid (hk1.trans hk2)
 rcases h with ⟨a, p, rfl, hne⟩ | ⟨l, rules, st, t, T, rfl, hT, hst, hf⟩
 ·have hneI : ((a : Int) != 0) = true := by simp; omega
  clear hne hk1 hk2
  obtain ⟨wb, HWB⟩ : ∃ x, Hid (w2.alloc (.cells #[.int .i64 (a : Int), .int .i64 (p : Int)] 26 (0, 0)) = x) := ⟨_, rfl⟩
  have c0 : wb.cell? ⟨w2.heap.size, 0, none⟩ = some (.int .i64 (a : Int)) := by rw [← HWB.out]; exact cellIn (newIn w2 _) 0 rfl
  have HKB : Hid (Kept (fun _ => False) w wb) := Lib.hid (by rw [← HWB.out]; exact HK2.out.alloc _)
  go_upto_region 4 with fail
  rw [HWB.out]
  go_wp2_with fail
  go_ret
  exact ⟨rfl, HKB.out⟩
 ·obtain ⟨ms, qs, F⟩ := fold_reads hT hst.len hf
  obtain ⟨r1, r2, r3⟩ := fold_rest F
  obtain ⟨wb, HWB⟩ : ∃ x, Hid (w2.alloc (.cells #[.int .i64 0, .int .i64 0] 26 (0, 0)) = x) := ⟨_, rfl⟩
  have c0 : wb.cell? ⟨w2.heap.size, 0, none⟩ = some (.int .i64 0) := by rw [← HWB.out]; exact cellIn (newIn w2 _) 0 rfl
  have HKB : Hid (Kept (fun _ => False) w wb) := Lib.hid (by rw [← HWB.out]; exact HK2.out.alloc _)
  have HC1 := Lib.hid (rest_any s l (page_of hT) r1 m wb (HKB.out.cell id HM.out))
  have HC2 : Hid (∀ wx, Kept (fun _ => False) w wx → Calls Tryz.prog 24 #[.string (str t)] wx fun e w' => e = .returned (.string (str (restF s 0 l))) ∧ Kept (fun _ => False) wx w') := Lib.hid (fun wx hk => by
   have := rest_any t ms (page_of F.dst) r2 m wx (hk.cell id HM.out)
   rw [r3] at this
   exact this)
  clear hk1 hk2 hT hst hf F r1 r2 r3
  go_upto_region 4 with fail
  rw [HWB.out]
  go_wp2_with fail
  refine HC1.out.mono ?_
  rintro e w3 ⟨rfl, hk3⟩
  have HK3 := Lib.hid (HKB.out.trans hk3)
  clear hk3
  go_wp2_with fail
  refine (HC2.out _ HK3.out).mono ?_
  rintro e w4 ⟨rfl, hk4⟩
  have HK4 := Lib.hid (HK3.out.trans hk4)
  clear hk4
  go_wp2_with fail
  go_ret
  exact ⟨rfl, HK4.out⟩
end Go.Proofs.YtplbdlgmjehckacGreatDoor

