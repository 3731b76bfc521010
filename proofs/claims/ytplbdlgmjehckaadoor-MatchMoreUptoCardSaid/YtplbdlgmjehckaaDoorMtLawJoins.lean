/-
  inklaw3.MatchJoins.
-/
import Derived.Test.YtplbdlgmjehckaaDoorMtAlive
import Derived.Test.YtplbdlgmjehckaaDoorOwnPut
namespace Go.Proofs.YtplbdlgmjehckaaDoor
open Go.RowKit
set_option linter.unusedVariables false
set_option linter.unusedSimpArgs false

/-- 'parents stand ahead' of the elements from k on -/
def rightFrom (k : Nat) : List PNode → Bool
  | [] => true
  | n :: ns => decide (n.parent < (k : Int)) && decide (-1 ≤ n.parent) && rightFrom (k + 1) ns
theorem rightFrom_iff : ∀ (ns : List PNode) (k : Nat), rightFrom k ns = true ↔ ∀ (i : Nat) (n : PNode), ns[i]? = some n → n.parent < ((k + i : Nat) : Int) ∧ -1 ≤ n.parent
  | [], k => by simp [rightFrom]
  | n :: ns, k => by
    simp only [rightFrom, Bool.and_eq_true, decide_eq_true_eq, rightFrom_iff ns (k + 1)]
    constructor
    · rintro ⟨⟨h1, h2⟩, h3⟩ i x hx
      cases i with
      | zero => simp at hx; subst hx; exact ⟨by simpa using h1, h2⟩
      | succ i => have := h3 i x (by simpa using hx); rw [show k + (i + 1) = k + 1 + i by omega]; exact this
    · intro h
      have h0 := h 0 n rfl
      exact ⟨⟨by simpa using h0.1, h0.2⟩, fun i x hx => by have := h (i + 1) x (by simpa using hx); rw [show k + 1 + i = k + (i + 1) by omega]; exact this⟩
theorem right_of {ns : List PNode} (h : rightFrom 0 ns = true) : Right ns := fun i n hn => by
  have := (rightFrom_iff ns 0).1 h i n hn
  rwa [Nat.zero_add] at this
theorem rightFrom_drop {ns : List PNode} {k : Nat} {n : PNode} (h : ns[k]? = some n) : rightFrom k (ns.drop k) = (decide (n.parent < (k : Int)) && decide (-1 ≤ n.parent) && rightFrom (k + 1) (ns.drop (k + 1))) := by
  have hk := (List.getElem?_eq_some_iff.1 h).1
  rw [List.drop_eq_getElem_cons hk]
  rw [List.getElem?_eq_getElem hk] at h
  cases h
  rfl

set_option maxRecDepth 100000 in
set_option maxHeartbeats 1600000 in
theorem right_any (ns : List PNode) (hf : Fit ns) (hfew : ns.length ≤ 1048576) (w : World) (v : Value) (hv : NodesAt w v ns) : Calls Tryd.prog 22 #[v] w fun e w' => e = .returned (.bool (rightFrom 0 ns)) ∧ Kept (fun _ => False) w w' := by
  obtain ⟨na, ncap, rfl, hnc1, hnc2⟩ := hv.form
  unfold maxLen at hnc2
  have HV := Lib.hid hv
  have HF := Lib.hid hf
  obtain ⟨r, HR⟩ : ∃ r, Hid (rightFrom 0 ns = r) := ⟨_, rfl⟩
  rw [HR.out]
  clear hv hf
  go_enter Tryd.func22, Tryd.ntmps22
  go_wp2_with fail
  go_loopw [7] (fun i wr => ∃ j : Nat, j ≤ ns.length ∧ i = .int .i64 j ∧ Hid (Kept (fun _ => False) w wr) ∧ Hid (rightFrom j (ns.drop j) = r)) (fun i _ => ns.length - (intOf i).toNat)
  case atStart => exact ⟨0, by omega, rfl, Lib.hid (Kept.refl _ _), HR⟩
  case round =>
    obtain ⟨j, hj, rfl, HL, HX0⟩ := hrel
    by_cases hlt : j < ns.length
    · have hx := List.getElem?_eq_getElem hlt
      generalize hgx : ns[j] = n at hx
      clear hgx
      obtain ⟨b, o, av, rfl, g0, g1, g2, g3, g4, g5, hav⟩ := NodesAt.at (nodes_firm.kept HV.out HL.out) hx
      obtain ⟨aa, acap, rfl, hac1, hac2⟩ := AttrsAt.form hav
      unfold maxLen at hac2
      have hpf := HF.out n (List.mem_of_getElem? hx)
      have hd := rightFrom_drop hx
      rw [HX0.out] at hd
      have HD := Lib.hid hd
      clear hx hd hav
      go_upto_region 4 with fail
      obtain ⟨wa, HWA⟩ : ∃ x', Hid (wr.alloc (.cells #[.string (str n.name), .int .i64 n.parent, .slice aa n.attrs.length acap, .int .i64 n.nameEnd, .int .i64 n.inF, .int .i64 n.inT] 79 (0, 0)) = x') := ⟨_, rfl⟩
      have hka : Kept (fun _ => False) w wa := by rw [← HWA.out]; exact HL.out.alloc _
      have p1 : wa.cell? ⟨wr.heap.size, 1, none⟩ = some (.int .i64 n.parent) := by rw [← HWA.out]; exact cellIn (newIn wr _) 1 rfl
      have KA := Lib.hid hka
      clear hka g0 g1 g2 g3 g4 g5
      rw [HWA.out]
      by_cases h1 : (j : Int) ≤ n.parent
      · have hr : Hid (false = r) := Lib.hid (by rw [HD.out]; simp; omega)
        go_wp2_with fail
        go_ret
        exact ⟨retb hr.out, KA.out⟩
      · by_cases h2 : n.parent < -1
        · have hr : Hid (false = r) := Lib.hid (by rw [HD.out]; simp; omega)
          go_wp2_with fail
          go_ret
          exact ⟨retb hr.out, KA.out⟩
        · have hr : Hid (rightFrom (j + 1) (ns.drop (j + 1)) = r) := Lib.hid (by rw [HD.out]; simp; omega)
          go_wp2_with fail
          go_roundw
          case measure => simp [intOf]; omega
          case rel => exact ⟨j + 1, by omega, by go_num, KA, hr⟩
    · obtain rfl : j = ns.length := by omega
      have hr : Hid (true = r) := Lib.hid (by rw [← HX0.out, List.drop_length]; rfl)
      go_wp2_with fail
      go_ret
      exact ⟨retb hr.out, HL.out⟩

theorem NestAt.drop {α : Type} {f : α → Value → List Value} {size : Nat} {Q : World → Value → α → Prop} {w : World} {b off len cap : Nat} {xs : List α} (h : NestAt f size Q w (.slice (some ⟨b, off, none⟩) len cap) xs) {n : Nat} (hn : n ≤ len) :
    NestAt f size Q w (.slice (some ⟨b, off + n * size, none⟩) (len - n) (cap - n)) (xs.drop n) := by
  obtain ⟨vs, h0, ⟨a', cap', hv, h1, h2, h3⟩, h4⟩ := h
  simp only [Value.slice.injEq] at hv
  obtain ⟨rfl, hl, rfl⟩ := hv
  simp only [List.length_zipWith] at hl h1
  rw [h0, Nat.min_self] at hl h1
  refine ⟨vs.drop n, by simp [h0], ⟨some ⟨b, off + n * size, none⟩, cap - n, by simp [h0, hl], by simp [h0]; omega, by omega, fun hne => ?_⟩, fun i x u hx hu => ?_⟩
  · have hne' : List.zipWith f xs vs ≠ [] := by
      intro e
      apply hne
      rw [← List.drop_zipWith, e, List.drop_nil]
    obtain ⟨b', off', hb, h5⟩ := h3 hne'
    cases hb
    refine ⟨_, _, rfl, fun i r hr j c hj => ?_⟩
    rw [← List.drop_zipWith, List.getElem?_drop] at hr
    have := h5 (n + i) r hr j c hj
    rw [Nat.add_mul, ← Nat.add_assoc] at this
    exact this
  · rw [List.getElem?_drop] at hx hu
    exact h4 (n + i) x u hx hu

theorem parts_of_owns {w : World} {base g n c : Nat} {s : PSel} {vs : List Value} (hown : w.ownsRow base 45 2 (.slice (some ⟨g, 0, none⟩) n c) n (List.zipWith partCells s vs).flatten) (hlen : vs.length = s.length) (hn : n = s.length)
    (hts : ∀ (i : Nat) (x : PPart) (u : Value), s[i]? = some x → vs[i]? = some u → TestsAt w u x.tests) : PartsAt w (.slice (some ⟨g, 0, none⟩) n c) s :=
  ⟨vs, hlen, rowsAt_of_owns (zipRows partCells_len) (by simp [hlen, hn]) hown, hts⟩
theorem parts_ones {w : World} {xs : PSel} {vs : List Value} (h : ∀ (i : Nat) (x : PPart) (u : Value), xs[i]? = some x → vs[i]? = some u → TestsAt w u x.tests) : ∀ c ∈ (List.zipWith partCells xs vs).flatten, c.oneCell' = true := by
  intro c hc
  obtain ⟨r, hr, hc⟩ := List.mem_flatten.1 hc
  obtain ⟨i, hi, rfl⟩ := List.mem_iff_getElem.1 hr
  simp only [List.length_zipWith] at hi
  rw [List.getElem_zipWith] at hc
  have hd := h i _ _ (List.getElem?_eq_getElem (by omega)) (List.getElem?_eq_getElem (by omega))
  obtain ⟨_, _, hu, _⟩ := TestsAt.form hd
  rw [hu] at hc
  simp only [partCells, List.mem_cons, List.not_mem_nil, or_false] at hc
  rcases hc with rfl | rfl <;> rfl

set_option maxRecDepth 100000 in
set_option maxHeartbeats 3200000 in
theorem matchJoins_any (ns : List PNode) (hns : MtCtx ns) (s : PSel) (m : Int) (w : World) (v sv : Value) (k i : Int) (hv : NodesAt w v ns) (hp : PartsAt w sv s) (hs : s.length ≤ 1048576) (hj : ∀ p ∈ s, -9223372036854775808 ≤ p.join ∧ p.join ≤ 9223372036854775807)
    (hk : -9223372036854775808 ≤ k ∧ k ≤ 9223372036854775807) (hi : -9223372036854775808 ≤ i ∧ i ≤ 9223372036854775807) (hm : w.cell? ⟨0, 0, none⟩ = some (.int .i64 m)) :
    Calls Tryd.prog 7 #[v, .int .i64 k, sv, .int .i64 i] w fun e w' => e = .returned (.bool true) ∧ Below w.heap.size w w' := by
  obtain ⟨na, ncap, rfl, hnc1, hnc2⟩ := hv.form
  obtain ⟨pa, pcap, rfl, hpc1, hpc2⟩ := NestAt.form hp
  unfold maxLen at hnc2 hpc2
  have hfew := hns.few
  have HV := Lib.hid hv
  have HP := Lib.hid hp
  have HJ := Lib.hid hj
  have HM := Lib.hid hm
  have HNS := Lib.hid hns
  have HK := Lib.hid hk
  clear hv hp hj hm hns
  go_enter Tryd.func7, Tryd.ntmps7
  go_wp2_with fail
  refine (alive3_any w m HM.out).mono ?_
  rintro e w1 ⟨rfl, hk1⟩
  have K1 := Lib.hid hk1
  have HR := Lib.hid (right_any ns HNS.out.fit hfew w1 _ (nodes_firm.kept HV.out hk1))
  clear hk1
  go_wp2_with fail
  refine HR.out.mono ?_
  rintro e w2 ⟨rfl, hk2⟩
  have K2 := Lib.hid (K1.out.trans hk2)
  clear hk2
  cases hr : rightFrom 0 ns with
  | false =>
    go_wp2_with fail
    go_ret
    exact ⟨rfl, K2.out.below⟩
  | true =>
    have HRT := Lib.hid (right_of hr)
    clear hr
    by_cases hi1 : i < 1
    · go_wp2_with fail
      go_ret
      exact ⟨rfl, K2.out.below⟩
    · by_cases hi2 : (s.length : Int) ≤ i
      · go_wp2_with fail
        go_ret
        exact ⟨rfl, K2.out.below⟩
      · obtain ⟨n, rfl⟩ : ∃ n : Nat, i = (n : Int) := ⟨i.toNat, by omega⟩
        obtain ⟨b, HB⟩ : ∃ b, Hid (mMatches ns k s = b) := ⟨_, rfl⟩
        have HC := matches_any ns HNS.out s m w2 _ _ k (nodes_firm.kept HV.out K2.out) (parts_firm.kept HP.out K2.out) HK.out (K2.out.cell id HM.out)
        rw [HB.out] at HC
        have HC := Lib.hid HC
        cases b with
        | false =>
          go_wp2_with (go_at_call 21; refine HC.out.mono ?_; rintro e w3 ⟨rfl, hk3⟩)
          go_ret
          exact ⟨rfl, (K2.out.trans hk3).below⟩
        | true =>
          have hnl : n < s.length := by omega
          have hd := matches_drop HB.out hnl
          go_upto_region 5 with (go_at_call 21; refine HC.out.mono ?_; rintro e w3 ⟨rfl, hk3⟩)
          have K3 := Lib.hid (K2.out.trans hk3)
          clear hk3
          have hxx := List.getElem?_eq_getElem hnl
          generalize hgx : s[n] = p at hxx
          clear hgx
          obtain ⟨pb, po, pv, rfl, hpc, hpt⟩ := NestAt.at HP.out hxx
          have HD := matches_any ns HNS.out (s.drop n) m w3 _ _ k (nodes_firm.kept HV.out K3.out) (parts_firm.kept (NestAt.drop HP.out (Nat.le_of_lt hnl)) K3.out) HK.out (K3.out.cell id HM.out)
          rw [hd] at HD
          have HD := Lib.hid HD
          have HXX := Lib.hid hxx
          clear hd hxx
          go_upto_region 7 with (go_at_call 21; refine HD.out.mono ?_; rintro e w4 ⟨rfl, hk4⟩)
          have K4 := Lib.hid (K3.out.trans hk4)
          obtain ⟨i0, hi0, hz0, hz1, hz2⟩ := info_parts info_part
          obtain ⟨wd, HWD⟩ : ∃ y, Hid (w4.alloc (.cells #[] 45 (0, 0)) = y) := ⟨_, rfl⟩
          have kd : Kept (fun _ => False) w4 wd := by rw [← HWD.out]; exact (Kept.refl _ w4).alloc _
          have hod : wd.ownsRow w4.heap.size 45 2 (.slice (some ⟨w4.heap.size, 0, none⟩) 0 0) 0 [] := by rw [← HWD.out]; exact owns_built w4 _ _ _ (Nat.le_refl _)
          obtain ⟨vs, hv1, hv2, hv3⟩ := parts_firm.kept HP.out K4.out
          obtain ⟨a5, c5, w5, hr5, ho5, k5, hl5⟩ := append_any (P := Tryd.prog) wd 40 40 w4.heap.size 45 i0 _ 2 32 Tryd.underlying40 hi0 hz0 hz1 hz2 rfl (by omega) _ 0 0 [] hod (some ⟨pb, po, none⟩) (List.length s) pcap _ (hv2.below kd.below) (zipRows partCells_len) (parts_ones hv3) (by unfold maxLen; omega) (by omega) (by have := kd.size; omega)
          have k5' : Kept (fun k => k = w4.heap.size) wd w5 := k5.mono (fun k _ h => by simp only [Value.ownBlock, Option.some.injEq] at h; exact h.symm)
          have kc5 : Kept (fun _ => False) w4 w5 := kd.trans' k5' (fun i hi h => by omega)
          have hz : ∃ g, a5 = some ⟨g, 0, none⟩ ∧ w4.heap.size ≤ g ∧ ∃ cur, w5.heap[g]? = some (.cells cur 45 (0, 0)) := by
            rcases ho5.2 with ⟨h, h0⟩ | ⟨g, cap, cur, h1, h2, h3, _⟩
            · omega
            · cases h1; exact ⟨g, rfl, h2, cur, h3⟩
          obtain ⟨g, rfl, hg, cur, hcur⟩ := hz
          have f0 := freeIn hcur (n * 2)
          have hrow : RowsAt w5 2 (.slice (some ⟨g, 0, none⟩) (0 + List.length s) c5) (List.zipWith partCells s vs) := rowsAt_of_owns (n := 0 + List.length s) (zipRows partCells_len) (by simp [hv1]) ho5
          have hvn : vs[n]? = some (vs[n]'(by omega)) := List.getElem?_eq_getElem _
          obtain ⟨g', o', hgg, hcells⟩ := RowsAt.at hrow (k := n) (r := partCells p (vs[n]'(by omega))) (by simp [List.getElem?_zipWith, HXX.out, hvn])
          cases hgg
          have q0 : w5.cell? ⟨g, n * 2, none⟩ = some (.int .i64 p.join) := by have := hcells 0 _ rfl; simpa using this
          have K5 := Lib.hid (K4.out.trans kc5)
          rw [Nat.zero_add] at hr5 ho5
          rw [List.nil_append] at ho5
          have HO := Lib.hid ho5
          rw [← HWD.out] at hr5
          have HR5 := Lib.hid hr5
          have HVS := Lib.hid hv3
          have HG := Lib.hid hg
          have KC5 := Lib.hid kc5
          have hpj := HJ.out p (List.mem_of_getElem? HXX.out)
          clear hk4 kd hod k5 k5' kc5 hrow hvn hcells hl5 hr5 ho5 hv2 hv3 hg hcur
          have hjb := joined_below HRT.out HB.out HXX.out
          by_cases hj2 : p.join = 2
          · have hj3 : (p.join == 2) = true := by simp [hj2]
            obtain ⟨wz, HWZ⟩ : ∃ y, Hid (w5.setCell ⟨g, n * 2, none⟩ (.int .i64 1) = y) := ⟨_, rfl⟩
            have hkz : Kept (fun _ => False) w4 wz := by rw [← HWZ.out]; exact KC5.out.setCell (p := ⟨g, n * 2, none⟩) (.inr HG.out) _
            have hoz : wz.ownsRow w4.heap.size 45 2 (.slice (some ⟨g, 0, none⟩) (List.length s) c5) (List.length s) (List.zipWith partCells (s.set n ⟨1, p.tests⟩) vs).flatten := by
              rw [← HWZ.out]
              have hvn : vs[n]? = some (vs[n]'(by omega)) := List.getElem?_eq_getElem _
              rw [zipWith_set_left partCells s vs n ⟨1, p.tests⟩ _ hvn]
              exact owns_put (a := none) (k := n) (j := 0) (r := partCells p (vs[n]'(by omega))) HO.out (zipRows partCells_len) (by simp [hv1]) (by simp [List.getElem?_zipWith, HXX.out, hvn]) (by omega) (.int .i64 1)
            have hpz : PartsAt wz (.slice (some ⟨g, 0, none⟩) (List.length s) c5) (s.set n ⟨1, p.tests⟩) := parts_of_owns hoz (by simp [hv1]) (by simp) (fun i x u hx hu => by
              rw [List.getElem?_set] at hx
              split at hx
              · rename_i hin
                subst hin
                have hx' := Option.some.inj (by simpa [hnl] using hx)
                subst hx'
                exact tests_firm.kept (HVS.out _ p u HXX.out hu) hkz
              · exact tests_firm.kept (HVS.out _ x u hx hu) hkz)
            have hset : s.set n ⟨1, p.tests⟩ = s.take n ++ { p with join := if p.join = 2 then 1 else p.join } :: s.drop (n + 1) := by
              rw [List.set_eq_take_append_cons_drop, if_pos hnl, if_pos hj2]
            have HF := matches_any ns HNS.out (s.set n ⟨1, p.tests⟩) m wz _ _ k (nodes_firm.kept (nodes_firm.kept HV.out K4.out) hkz) hpz HK.out ((K4.out.trans hkz).cell id HM.out)
            rw [hset, hjb] at HF
            have HF := Lib.hid HF
            have KZ := Lib.hid (K4.out.trans hkz)
            clear hkz hoz hpz hset hjb hj2
            go_upto_region 10 with (at_builtin; refine wpList_append_eq (by rfl) _ _ _ rfl _ _ _ rfl rfl _ HR5.out ?_)
            rw [HWZ.out]
            go_wp2_with (go_at_call 21; refine HF.out.mono ?_; rintro e w6 ⟨rfl, hk6⟩)
            go_ret
            exact ⟨rfl, (KZ.out.trans hk6).below⟩
          · have hj3 : (p.join == 2) = false := by simp [hj2]
            have hpz : PartsAt w5 (.slice (some ⟨g, 0, none⟩) (List.length s) c5) s := parts_of_owns HO.out hv1 rfl (fun i x u hx hu => tests_firm.kept (HVS.out _ x u hx hu) KC5.out)
            have hset : s = s.take n ++ { p with join := if p.join = 2 then 1 else p.join } :: s.drop (n + 1) := by
              rw [if_neg hj2]
              conv => lhs; rw [set_split HXX.out]
            have HF := matches_any ns HNS.out s m w5 _ _ k (nodes_firm.kept HV.out K5.out) hpz HK.out (K5.out.cell id HM.out)
            rw [HB.out] at HF
            have HF := Lib.hid HF
            clear hpz hset hjb hj2
            go_wp2_with (first
              | (at_builtin; refine wpList_append_eq (by rfl) _ _ _ rfl _ _ _ rfl rfl _ HR5.out ?_)
              | (go_at_call 21; refine HF.out.mono ?_; rintro e w6 ⟨rfl, hk6⟩))
            go_ret
            exact ⟨rfl, (K5.out.trans hk6).below⟩
end Go.Proofs.YtplbdlgmjehckaaDoor
