/-
  match.part, match.at, match.Matches.
-/
import Derived.Test.YtplbdlgmjehckacDoorMtTest
namespace Go.Proofs.YtplbdlgmjehckacDoor
open Go.RowKit
set_option linter.unusedVariables false
set_option linter.unusedSimpArgs false

/-- a part's two cells -/
def PartAt (w : World) (b o : Nat) (p : PPart) : Prop := ∃ tv, w.cell? ⟨b, o, none⟩ = some (.int .i64 p.join) ∧ w.cell? ⟨b, o + 1, none⟩ = some tv ∧ TestsAt w tv p.tests
theorem PartAt.kept {w w' : World} {b o : Nat} {p : PPart} (h : PartAt w b o p) (hk : Kept (fun _ => False) w w') : PartAt w' b o p := by
  obtain ⟨tv, h1, h2, h3⟩ := h
  exact ⟨tv, hk.cell id h1, hk.cell id h2, tests_firm.kept h3 hk⟩

set_option maxRecDepth 100000 in
set_option maxHeartbeats 1600000 in
theorem part_any (w : World) (v : Value) (ns : List PNode) (k : Nat) (hv : NodesAt w v ns) (hk : k < ns.length) (hs : Short ns) (hn0 : ns.length ≤ 1048576) (b o : Nat) (p : PPart) (hp : PartAt w b o p) (m : Int) (hm : w.cell? ⟨0, 0, none⟩ = some (.int .i64 m)) :
    Calls Tryd.prog 64 #[v, .int .i64 (k : Int), .pointer (some ⟨b, o, none⟩)] w fun e w' => e = .returned (.bool (mPart ns k p)) ∧ Kept (fun _ => False) w w' := by
  obtain ⟨r, HR⟩ : ∃ r, Hid (mPart ns k p = r) := ⟨_, rfl⟩
  rw [HR.out]
  obtain ⟨tv, p0, p1, ht⟩ := hp
  obtain ⟨ta, tc, rfl, htc1, htc2⟩ := TestsAt.form ht
  unfold maxLen at htc2
  have HT := Lib.hid ht
  have HV := Lib.hid hv
  have HS := Lib.hid hs
  have HM := Lib.hid hm
  have HP1 := Lib.hid p1
  clear hv hs hm ht p0
  go_enter Tryd.func64, Tryd.ntmps64
  go_wp2_with fail
  go_loopw [13] (fun i wr => ∃ j : Nat, j ≤ p.tests.length ∧ i = .int .i64 j ∧ Hid (Kept (fun _ => False) w wr) ∧ Hid ((p.tests.take j).all (mTest ns k) = true)) (fun i _ => p.tests.length - (intOf i).toNat)
  case atStart => exact ⟨0, by omega, rfl, Lib.hid (Kept.refl _ _), Lib.hid rfl⟩
  case round =>
    obtain ⟨j, hj, rfl, HK, HJ⟩ := hrel
    by_cases hlt : j < p.tests.length
    · have hx := List.getElem?_eq_getElem hlt
      generalize hgx : p.tests[j] = t at hx
      clear hgx
      obtain ⟨tb, to_, rfl, t0, t1, t2⟩ := TestsAt.at (tests_firm.kept HT.out HK.out) hx
      have HTA : Hid (TestAt wr tb (to_ + j * 3) t) := Lib.hid ⟨t0, t1, t2⟩
      have hpc : wr.cell? ⟨b, o + 1, none⟩ = some (.slice (some ⟨tb, to_, none⟩) p.tests.length tc) := HK.out.cell id HP1.out
      have hm1 := Lib.hid (HK.out.cell id HM.out)
      have HX := Lib.hid hx
      clear hx t0 t1 t2 p1
      cases htst : mTest ns k t with
      | false =>
        have hr : Hid (false = r) := Lib.hid (by
          rw [← HR.out]
          unfold mPart
          symm
          rw [List.all_eq_false]
          exact ⟨t, List.mem_of_getElem? HX.out, by simp [htst]⟩)
        have HTS := Lib.hid htst
        clear htst
        go_wp2_with (go_at_call 73; refine (test_any wr _ ns k (nodes_firm.kept HV.out HK.out) hk HS.out hn0 tb (to_ + j * 3) t HTA.out m hm1.out).mono ?_; rintro e w2 ⟨rfl, hb2⟩; rw [HTS.out])
        go_ret
        exact ⟨retb hr.out, HK.out.trans (Kept.of_below hb2)⟩
      | true =>
        have HTS := Lib.hid htst
        clear htst
        go_wp2_with (go_at_call 73; refine (test_any wr _ ns k (nodes_firm.kept HV.out HK.out) hk HS.out hn0 tb (to_ + j * 3) t HTA.out m hm1.out).mono ?_; rintro e w2 ⟨rfl, hb2⟩; rw [HTS.out])
        go_roundw
        case measure => simp [intOf]; omega
        case rel =>
          refine ⟨j + 1, by omega, by go_num, Lib.hid (HK.out.trans (Kept.of_below hb2)), Lib.hid ?_⟩
          rw [List.take_add_one, HX.out, Option.toList_some, List.all_append, HJ.out]
          simp [HTS.out]
    · obtain rfl : j = p.tests.length := by omega
      go_wp2_with fail
      go_ret
      have h1 := HJ.out
      rw [List.take_length] at h1
      exact ⟨retb (by rw [← HR.out]; unfold mPart; exact h1.symm), HK.out⟩

/-- parents' numbers fit -/
def Fit (ns : List PNode) : Prop := ∀ n ∈ ns, -9223372036854775808 ≤ n.parent ∧ n.parent ≤ 9223372036854775807
/-- what holds for the elements and selectors that a call is about -/
structure MtCtx (ns : List PNode) : Prop where
  short : Short ns
  few : ns.length ≤ 1048576
  fit : Fit ns

def AtEnds (w : World) (r : Bool) (e : Ending) (w' : World) : Prop := e = .returned (.bool r) ∧ Kept (fun _ => False) w w'
theorem parentOf_at {ns : List PNode} {k : Nat} {x : PNode} (h : ns[k]? = some x) : parentOf ns k = x.parent := by unfold parentOf; rw [h]
/-- those above, from one of them on -/
def upsAny (ns : List PNode) (q : Int → Bool) (k : Nat) (u : Int) : Bool := if 0 ≤ u ∧ u < (k : Int) then q u || (ups ns u.toNat).any (fun x => q (x : Int)) else false
theorem ups_any (ns : List PNode) (q : Int → Bool) (k : Nat) : (ups ns k).any (fun x => q (x : Int)) = upsAny ns q k (parentOf ns k) := by
  rw [ups_eq]
  unfold upsAny
  split
  · rename_i h
    rw [List.any_cons, Int.toNat_of_nonneg h.1]
  · rfl
theorem upsAny_next {ns : List PNode} {q : Int → Bool} {k u : Nat} (hu : u < k) (h : parentOf ns u < (u : Int)) : (ups ns u).any (fun x => q (x : Int)) = upsAny ns q k (parentOf ns u) := by
  rw [ups_any]
  unfold upsAny
  by_cases h0 : 0 ≤ parentOf ns u
  · rw [if_pos ⟨h0, h⟩, if_pos ⟨h0, by omega⟩]
  · rw [if_neg (by omega), if_neg (by omega)]
theorem ups_none {ns : List PNode} {u : Nat} (h : (u : Int) ≤ parentOf ns u) : ups ns u = [] := by
  rw [ups_eq, if_neg (by omega)]
theorem rev_take {s : PSel} {n : Nat} {p : PPart} (hn : 1 ≤ n) (hp : s[n - 1]? = some p) : (s.take n).reverse = p :: (s.take (n - 1)).reverse := by
  obtain ⟨j, rfl⟩ : ∃ j, n = j + 1 := ⟨n - 1, by omega⟩
  rw [Nat.add_sub_cancel] at hp ⊢
  rw [List.take_add_one, hp, Option.toList_some, List.reverse_append]
  rfl
theorem ahead_fits (ns : List PNode) (k : Int) (h : ns.length ≤ 1048576) : -1 ≤ pAhead ns k ∧ pAhead ns k ≤ 1048576 := by
  have hl : ∀ (p : Int) (j : Nat), j ≤ ns.length → -1 ≤ lastWith ns p j ∧ lastWith ns p j ≤ 1048576 := by
    intro p j
    induction j with
    | zero => intro _; exact ⟨by simp [lastWith], by simp [lastWith]⟩
    | succ j ih =>
      intro hj
      unfold lastWith
      split
      · omega
      · exact ih (by omega)
  unfold pAhead
  split
  · omega
  · rename_i h0
    split
    · exact hl _ _ (by omega)
    · omega

set_option maxRecDepth 100000 in
set_option maxHeartbeats 3200000 in
theorem at_any (ns : List PNode) (hns : MtCtx ns) (s : PSel) (m : Int) : ∀ (n : Nat), 1 ≤ n → n ≤ s.length → ∀ (w : World) (v sv : Value) (k : Int), NodesAt w v ns → PartsAt w sv s → (-9223372036854775808 ≤ k ∧ k ≤ 9223372036854775807) → w.cell? ⟨0, 0, none⟩ = some (.int .i64 m) →
    Calls Tryd.prog 50 #[v, .int .i64 k, sv, .int .i64 (n : Int)] w (AtEnds w (mAt ns (s.take n).reverse k)) := by
  intro n
  induction n with
  | zero => intro h; omega
  | succ n0 ih =>
  intro hn1 hnl w v sv k hv hp hk hm
  obtain ⟨n, hnn⟩ : ∃ n, n = n0 + 1 := ⟨_, rfl⟩
  rw [← hnn] at hn1 hnl ⊢
  have IH := Lib.hid ih
  have HNN := Lib.hid hnn
  clear ih hnn
  have hpx : ∃ p, s[n - 1]? = some p := ⟨_, List.getElem?_eq_getElem (by omega)⟩
  obtain ⟨p, hpp⟩ := hpx
  obtain ⟨q, HQ⟩ : ∃ q, Hid (mAt ns (s.take (n - 1)).reverse = q) := ⟨_, rfl⟩
  have hR0 : mAt ns (s.take n).reverse k = (inR ns k && mPart ns k.toNat p && ((s.take (n - 1)).reverse.isEmpty || mJoin ns p.join q k.toNat)) := by
    rw [rev_take hn1 hpp, mAt, HQ.out]
  obtain ⟨r, HR⟩ : ∃ r, Hid (mAt ns (s.take n).reverse k = r) := ⟨_, rfl⟩
  rw [HR.out]
  have hR := Lib.hid (hR0.symm.trans HR.out)
  clear hR0
  obtain ⟨na, ncap, rfl, hnc1, hnc2⟩ := hv.form
  obtain ⟨pa, pcap, rfl, hpc1, hpc2⟩ := NestAt.form hp
  unfold maxLen at hnc2 hpc2
  obtain ⟨pb, po, tv, rfl, hpc, hpt⟩ := NestAt.at hp hpp
  have HPA : Hid (PartAt w pb (po + (n - 1) * 2) p) := Lib.hid ⟨tv, hpc 0 _ rfl, hpc 1 _ rfl, hpt⟩
  have HNI : Hid ((n : Int) - 1 = ((n - 1 : Nat) : Int)) := Lib.hid (by omega)
  have pj : w.cell? ⟨pb, po + (n - 1) * 2, none⟩ = some (.int .i64 p.join) := hpc 0 _ rfl
  have HV := Lib.hid hv
  have HP := Lib.hid hp
  have HM := Lib.hid hm
  have HPP := Lib.hid hpp
  have hfew := hns.few
  obtain ⟨hk1, hk2⟩ := hk
  clear hv hp hm hpp hpc hpt
  by_cases h0 : k < 0
  · have hr : Hid (false = r) := Lib.hid (by rw [← hR.out]; have : inR ns k = false := by simp [inR]; omega
                                             simp [this])
    go_enter Tryd.func50, Tryd.ntmps50
    go_wp2_with fail
    go_ret
    exact ⟨retb hr.out, Kept.refl _ _⟩
  · by_cases h1 : (ns.length : Int) ≤ k
    · have hr : Hid (false = r) := Lib.hid (by rw [← hR.out]; have : inR ns k = false := by simp [inR]; omega
                                               simp [this])
      go_enter Tryd.func50, Tryd.ntmps50
      go_wp2_with fail
      go_ret
      exact ⟨retb hr.out, Kept.refl _ _⟩
    · obtain ⟨kn, rfl⟩ : ∃ j : Nat, k = j := ⟨k.toNat, by omega⟩
      have hkl : kn < ns.length := by omega
      have hin : inR ns (kn : Int) = true := by simp [inR]; omega
      have hR2 : Hid ((mPart ns kn p && ((s.take (n - 1)).reverse.isEmpty || mJoin ns p.join q kn)) = r) := Lib.hid (by rw [← hR.out, hin]; simp)
      have HPT := Lib.hid (part_any w _ ns kn HV.out hkl hns.short hns.few pb _ p HPA.out m HM.out)
      clear hin
      cases hpart : mPart ns kn p with
      | false =>
        rw [hpart] at HPT hR2
        have hr : Hid (false = r) := Lib.hid (by rw [← hR2.out]; rfl)
        clear hpart
        go_enter Tryd.func50, Tryd.ntmps50
        go_wp2_with (go_at_call 64; refine HPT.out.mono ?_; rintro e w2 ⟨rfl, hk2⟩)
        go_ret
        exact ⟨retb hr.out, hk2⟩
      | true =>
        rw [hpart] at HPT hR2
        clear hpart
        have hx := List.getElem?_eq_getElem hkl
        generalize hgx : ns[kn] = x at hx
        clear hgx
        have HX := Lib.hid hx
        have hpf := hns.fit x (List.mem_of_getElem? hx)
        have hpo : Hid (parentOf ns kn = x.parent) := Lib.hid (parentOf_at hx)
        clear hx
        by_cases h1n : n = 1
        · have hr : Hid (true = r) := Lib.hid (by rw [← hR2.out, h1n]; rfl)
          have g : ((n : Int) == 1) = true := by simp [h1n]
          clear h1n
          go_enter Tryd.func50, Tryd.ntmps50
          go_wp2_with (go_at_call 64; refine HPT.out.mono ?_; rintro e w2 ⟨rfl, hk2⟩)
          go_ret
          exact ⟨retb hr.out, hk2⟩
        · have g : ((n : Int) == 1) = false := by simp; omega
          have hne : (s.take (n - 1)).reverse.isEmpty = false := by
            rw [List.isEmpty_eq_false_iff]
            intro h
            have h2 : (s.take (n - 1)).reverse.length = n - 1 := by rw [List.length_reverse, List.length_take]; omega
            rw [h] at h2
            simp at h2; omega
          have hR3 : Hid (mJoin ns p.join q kn = r) := Lib.hid (by rw [← hR2.out, hne]; simp)
          have IH2 : Hid (∀ (w : World) (k : Int), NodesAt w (.slice na ns.length ncap) ns → PartsAt w (.slice (some ⟨pb, po, none⟩) (List.length s) pcap) s → (-9223372036854775808 ≤ k ∧ k ≤ 9223372036854775807) → w.cell? ⟨0, 0, none⟩ = some (.int .i64 m) →
              Calls Tryd.prog 50 #[.slice na ns.length ncap, .int .i64 k, .slice (some ⟨pb, po, none⟩) (List.length s) pcap, .int .i64 ((n : Int) - 1)] w (AtEnds w (q k))) := Lib.hid (by
            intro w k h1 h2 h3 h4
            have := IH.out (by have := HNN.out; omega) (by have := HNN.out; omega) w _ _ k h1 h2 h3 h4
            rw [show n0 = n - 1 from by have := HNN.out; omega, HQ.out] at this
            rw [HNI.out]; exact this)
          clear hne h1n
          by_cases hj2 : p.join = 2
          · have e2 : (p.join == 2) = true := by simp [hj2]
            have hr : Hid (q x.parent = r) := Lib.hid (by rw [← hR3.out, ← hpo.out]; unfold mJoin; rw [if_pos hj2])
            clear hj2
            obtain ⟨nb, noff, av, rfl, g0, g1, g2, g3, g4, g5, hav⟩ := HV.out.at HX.out
            go_enter Tryd.func50, Tryd.ntmps50
            go_wp2_with fail
            refine HPT.out.mono ?_
            rintro e w2 ⟨rfl, hk2⟩
            have g1' := hk2.cell id g1
            have pj' := hk2.cell id pj
            have HV2 := Lib.hid (nodes_firm.kept HV.out hk2)
            have HP2 := Lib.hid (parts_firm.kept HP.out hk2)
            have HM2 := Lib.hid (hk2.cell id HM.out)
            clear g0 g1 g2 g3 g4 g5 hav pj
            go_wp2_with (go_at_call 50; refine (IH2.out w2 x.parent HV2.out HP2.out hpf HM2.out).mono ?_; rintro e w3 ⟨rfl, hk3⟩)
            go_ret
            exact ⟨retb hr.out, hk2.trans hk3⟩
          · have e2 : (p.join == 2) = false := by simp [hj2]
            by_cases hj3 : p.join = 3
            · have e3 : (p.join == 3) = true := by simp [hj3]
              have hr : Hid (q (pAhead ns (kn : Int)) = r) := Lib.hid (by rw [← hR3.out]; unfold mJoin; rw [if_neg hj2, if_pos hj3])
              have haf := ahead_fits ns (kn : Int) hns.few
              clear hj2 hj3
              go_enter Tryd.func50, Tryd.ntmps50
              go_wp2_with fail
              refine HPT.out.mono ?_
              rintro e w2 ⟨rfl, hk2⟩
              have pj' := hk2.cell id pj
              have HV2 := Lib.hid (nodes_firm.kept HV.out hk2)
              have HP2 := Lib.hid (parts_firm.kept HP.out hk2)
              have HM2 := Lib.hid (hk2.cell id HM.out)
              clear pj
              go_wp2_with fail
              refine (ahead_any w2 _ ns (kn : Int) HV2.out (by omega)).mono ?_
              rintro e w3 ⟨rfl, hq3⟩
              have hk3 : Kept (fun _ => False) w2 w3 := hq3.kept _
              have HV3 := Lib.hid (nodes_firm.kept HV2.out hk3)
              have HP3 := Lib.hid (parts_firm.kept HP2.out hk3)
              have HM3 := Lib.hid (hk3.cell id HM2.out)
              go_wp2_with (go_at_call 50; refine (IH2.out w3 _ HV3.out HP3.out (by omega) HM3.out).mono ?_; rintro e w4 ⟨rfl, hk4⟩)
              go_ret
              exact ⟨retb hr.out, (hk2.trans hk3).trans hk4⟩
            · have e3 : (p.join == 3) = false := by simp [hj3]
              by_cases hj1 : p.join = 1
              · have e1 : (p.join == 1) = true := by simp [hj1]
                have hr : Hid (upsAny ns q kn x.parent = r) := Lib.hid (by rw [← hR3.out, ← hpo.out, ← ups_any]; unfold mJoin; rw [if_neg hj2, if_neg hj3, if_pos hj1])
                clear hj1 hj2 hj3
                obtain ⟨nb, noff, av, rfl, g0, g1, g2, g3, g4, g5, hav⟩ := HV.out.at HX.out
                go_enter Tryd.func50, Tryd.ntmps50
                go_wp2_with fail
                refine HPT.out.mono ?_
                rintro e w2 ⟨rfl, hk2⟩
                have g1' := hk2.cell id g1
                have pj' := hk2.cell id pj
                have HV2 := Lib.hid (nodes_firm.kept HV.out hk2)
                have HP2 := Lib.hid (parts_firm.kept HP.out hk2)
                have HM2 := Lib.hid (hk2.cell id HM.out)
                have HK2 := Lib.hid hk2
                clear g0 g1 g2 g3 g4 g5 hav pj hk2
                go_wp2_with fail
                go_loopw [9] (fun u wr => ∃ z : Int, u = .int .i64 z ∧ -9223372036854775808 ≤ z ∧ z ≤ 9223372036854775807 ∧ Hid (Kept (fun _ => False) w2 wr) ∧ Hid (upsAny ns q kn z = r)) (fun u _ => (intOf u + 1).toNat)
                case atStart => exact ⟨x.parent, rfl, hpf.1, hpf.2, Lib.hid (Kept.refl _ _), hr⟩
                case round =>
                  obtain ⟨z, rfl, hz1, hz2, HK, HU⟩ := hrel
                  by_cases hz : 0 ≤ z ∧ z < (kn : Int)
                  · obtain ⟨u, rfl⟩ : ∃ u : Nat, z = u := ⟨z.toNat, by omega⟩
                    have hul : u < ns.length := by omega
                    have huk : u < kn := by omega
                    have d1 : (0 : Int) ≤ (u : Int) := by omega
                    have d2 : (u : Int) < (kn : Int) := by omega
                    have hU : Hid ((q (u : Int) || (ups ns u).any (fun x => q (x : Int))) = r) := Lib.hid (by
                      rw [← HU.out]; unfold upsAny; rw [if_pos hz]; rfl)
                    have hy := List.getElem?_eq_getElem hul
                    generalize hgy : ns[u] = y at hy
                    clear hgy
                    have hyf := hns.fit y (List.mem_of_getElem? hy)
                    have hyo : Hid (parentOf ns u = y.parent) := Lib.hid (parentOf_at hy)
                    have hvr := nodes_firm.kept HV2.out HK.out
                    obtain ⟨nb2, noff2, av2, hbb, _, y1, _⟩ := hvr.at hy
                    cases hbb
                    have HVR := Lib.hid hvr
                    have HPR := Lib.hid (parts_firm.kept HP2.out HK.out)
                    have HMR := Lib.hid (HK.out.cell id HM2.out)
                    clear hy hz hvr
                    have HCALL := Lib.hid (IH2.out wr (u : Int) HVR.out HPR.out (by omega) HMR.out)
                    cases hq : q (u : Int) with
                    | true =>
                      rw [hq] at HCALL hU
                      have hrr : Hid (true = r) := Lib.hid (by rw [← hU.out]; rfl)
                      clear hq y1
                      go_wp2_with (go_at_call 50; refine HCALL.out.mono ?_; rintro e w3 ⟨rfl, hk3⟩)
                      go_ret
                      exact ⟨retb hrr.out, (HK2.out.trans HK.out).trans hk3⟩
                    | false =>
                      rw [hq] at HCALL hU
                      clear hq
                      go_wp2_with fail
                      refine HCALL.out.mono ?_
                      rintro e w3 ⟨rfl, hk3⟩
                      have y1' := hk3.cell id y1
                      have HK3 := Lib.hid (HK.out.trans hk3)
                      clear y1 hk3
                      by_cases hyu : (u : Int) ≤ y.parent
                      · have hrr : Hid (false = r) := Lib.hid (by rw [← hU.out, ups_none (by rw [hyo.out]; exact hyu)]; rfl)
                        go_wp2_with fail
                        go_ret
                        exact ⟨retb hrr.out, HK2.out.trans HK3.out⟩
                      · have hrr : Hid (upsAny ns q kn y.parent = r) := Lib.hid (by
                          rw [← hU.out, Bool.false_or, upsAny_next huk (by rw [hyo.out]; omega), hyo.out])
                        go_wp2_with fail
                        go_roundw
                        case measure => simp [intOf]; omega
                        case rel => exact ⟨y.parent, rfl, hyf.1, hyf.2, HK3, hrr⟩
                  · have hrr : Hid (false = r) := Lib.hid (by rw [← HU.out]; unfold upsAny; rw [if_neg hz])
                    by_cases hz0 : 0 ≤ z
                    · have hzk : ¬ z < (kn : Int) := fun h => hz ⟨hz0, h⟩
                      clear hz
                      go_wp2_with fail
                      go_ret
                      exact ⟨retb hrr.out, HK2.out.trans HK.out⟩
                    · clear hz
                      go_wp2_with fail
                      go_ret
                      exact ⟨retb hrr.out, HK2.out.trans HK.out⟩
              · have e1 : (p.join == 1) = false := by simp [hj1]
                have hr : Hid (false = r) := Lib.hid (by rw [← hR3.out]; unfold mJoin; rw [if_neg hj2, if_neg hj3, if_neg hj1])
                clear hj1 hj2 hj3
                go_enter Tryd.func50, Tryd.ntmps50
                go_wp2_with fail
                refine HPT.out.mono ?_
                rintro e w2 ⟨rfl, hk2⟩
                have pj' := hk2.cell id pj
                clear pj
                go_wp2_with fail
                go_ret
                exact ⟨retb hr.out, hk2⟩
end Go.Proofs.YtplbdlgmjehckacDoor
