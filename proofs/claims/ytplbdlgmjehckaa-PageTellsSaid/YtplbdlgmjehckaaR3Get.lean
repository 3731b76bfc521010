/-
  inkref1.Get, inkref1.Ahead.
-/
import Derived.Test.YtplbdlgmjehckaaGetAhead
import Derived.Deep.QuietTactic
namespace Go.Proofs.Ytplbdlgmjehckaa
open Go.RowKit
set_option linter.unusedVariables false
set_option linter.unusedSimpArgs false

set_option maxRecDepth 100000 in
set_option maxHeartbeats 1600000 in
theorem rget_any (w : World) (v : Value) (n : PNode) (nm : B) (hv : AttrsAt w v n.attrs) :
    Calls Try.prog 16 #[.agg #[.string (str n.name), .int .i64 n.parent, v, .int .i64 n.nameEnd, .int .i64 n.inF, .int .i64 n.inT], .string (str nm)] w fun e w' => e = .returned (.tuple #[.string (str (pGet n.attrs nm).1), .bool (pGet n.attrs nm).2]) ∧ Kept (fun _ => False) w w' := by
  obtain ⟨a, cap, rfl, hle, hcap⟩ := hv.form
  obtain ⟨name, parent, al, nameEnd, inF, inT⟩ := n
  simp only at hv hle ⊢
  unfold maxLen at hcap
  obtain ⟨wa, HWA⟩ : ∃ x', Hid (w.alloc (.cells #[.string (str name), .int .i64 parent, .slice a al.length cap, .int .i64 nameEnd, .int .i64 inF, .int .i64 inT] 35 (0, 0)) = x') := ⟨_, rfl⟩
  have ka : Kept (fun _ => False) w wa := by rw [← HWA.out]; exact (Kept.refl _ w).alloc _
  have hh : wa.heap[w.heap.size]? = some (.cells #[.string (str name), .int .i64 parent, .slice a al.length cap, .int .i64 nameEnd, .int .i64 inF, .int .i64 inT] 35 (0, 0)) := by rw [← HWA.out]; exact newIn w _
  have n2 : wa.cell? ⟨w.heap.size, 2, none⟩ = some (.slice a al.length cap) := cellIn hh 2 rfl
  have HV : Hid (AttrsAt wa (.slice a al.length cap) al) := Lib.hid (RowsAt.below hv ka.below)
  have KA := Lib.hid ka
  clear hv ka hh
  go_enter Try.func16, Try.ntmps16
  go_upto_region 1 with fail
  rw [HWA.out]
  go_wp2_with fail
  go_loopw [10] (fun i wr => ∃ k : Nat, k ≤ al.length ∧ i = .int .i64 k ∧ wr = wa ∧ Hid (∀ j y, j < k → al[j]? = some y → (y.name == nm) = false)) (fun i _ => al.length - (intOf i).toNat)
  case atStart => exact ⟨0, by omega, rfl, rfl, Lib.hid fun j y hj => by omega⟩
  case round =>
    obtain ⟨k, hk, rfl, rfl, HH⟩ := hrel
    by_cases hlt : k < al.length
    · have hx := List.getElem?_eq_getElem hlt
      generalize hgx : al[k] = x at hx
      clear hgx
      obtain ⟨b, off, rfl, g0, g1, g2, g3⟩ := AttrsAt.at HV.out hx
      have HX := Lib.hid hx
      clear hx g2 g3
      cases hc : (x.name == nm) with
      | true =>
        go_wp2_with fail
        refine bodyPost_ret (v := .tuple #[.string (str x.val), .bool true]) (by simp [results, Try.results16, go_sem]) rfl ?_
        exact ⟨retpair (a := (x.val, true)) (pGet_hit HH.out HX.out hc).symm, KA.out⟩
      | false =>
        go_wp2_with fail
        go_roundw
        case rel =>
          refine ⟨k + 1, by omega, by go_num, by trivial, Lib.hid fun j y hj hy => ?_⟩
          by_cases hjk : j = k
          · subst hjk
            rw [HX.out] at hy; cases hy
            exact hc
          · exact HH.out j y (by omega) hy
        case measure => simp [intOf]; omega
    · go_wp2_with fail
      refine bodyPost_ret (v := .tuple #[.string (str []), .bool false]) (by simp [results, Try.results16, go_sem]; rfl) rfl ?_
      refine ⟨retpair (b := pGet al nm) (a := ([], false)) ?_, KA.out⟩
      rw [pGet_miss (fun j y hy => HH.out j y (by have := (List.getElem?_eq_some_iff.1 hy).1; omega) hy)]

set_option maxRecDepth 100000 in
set_option maxHeartbeats 1600000 in
theorem rahead_any (w : World) (v : Value) (ns : List PNode) (k : Int) (hv : NodesAt w v ns) (hk : -9223372036854775808 ≤ k ∧ k ≤ 9223372036854775807) :
    Calls Try.prog 14 #[v, .int .i64 k] w (AheadEnds w (pAhead ns k)) := by
  have HV := Lib.hid hv
  obtain ⟨a, cap, rfl, hle, hcap⟩ := hv.form
  unfold maxLen at hcap
  clear hv
  obtain ⟨hk1, hk2⟩ := hk
  obtain ⟨r, HR⟩ : ∃ r, Hid (pAhead ns k = r) := ⟨_, rfl⟩
  rw [HR.out]
  by_cases h1 : (ns.length : Int) ≤ k
  · have hR : Hid (-1 = r) := Lib.hid (by rw [← HR.out]; unfold pAhead; rw [if_pos (.inr h1)])
    by_cases h0 : 0 < k
    · go_enter Try.func14, Try.ntmps14
      go_wp2_with fail
      go_loopw [5, 6] (fun o i wr => o = .int .i64 (-1) ∧ i = .int .i64 0 ∧ wr = w) (fun _ i _ => 0)
      case atStart => exact ⟨rfl, rfl, rfl⟩
      case round =>
        obtain ⟨rfl, rfl, rfl⟩ := hrel
        go_wp2_with fail
        go_ret
        exact ⟨reti hR.out, Qt.refl _⟩
    · go_enter Try.func14, Try.ntmps14
      go_wp2_with fail
      go_loopw [5, 6] (fun o i wr => o = .int .i64 (-1) ∧ i = .int .i64 0 ∧ wr = w) (fun _ i _ => 0)
      case atStart => exact ⟨rfl, rfl, rfl⟩
      case round =>
        obtain ⟨rfl, rfl, rfl⟩ := hrel
        go_wp2_with fail
        go_ret
        exact ⟨reti hR.out, Qt.refl _⟩
  · by_cases h0 : k < 0
    · have hR : Hid (-1 = r) := Lib.hid (by rw [← HR.out]; unfold pAhead; rw [if_pos (.inl h0)])
      go_enter Try.func14, Try.ntmps14
      go_wp2_with fail
      go_loopw [5, 6] (fun o i wr => o = .int .i64 (-1) ∧ i = .int .i64 0 ∧ wr = w) (fun _ i _ => 0)
      case atStart => exact ⟨rfl, rfl, rfl⟩
      case round =>
        obtain ⟨rfl, rfl, rfl⟩ := hrel
        go_wp2_with fail
        go_ret
        exact ⟨reti hR.out, Qt.refl _⟩
    · obtain ⟨kn, rfl⟩ : ∃ n : Nat, k = n := ⟨k.toNat, by omega⟩
      have hkl : kn < ns.length := by omega
      have hx := List.getElem?_eq_getElem hkl
      generalize hgx : ns[kn] = x at hx
      clear hgx
      obtain ⟨b, off, av, rfl, g0, g1, g2, g3, g4, g5, hav⟩ := HV.out.at hx
      have hr : Hid (lastWith ns x.parent kn = r) := Lib.hid (by
        have := HR.out
        unfold pAhead at this
        rw [if_neg (by omega), Int.toNat_natCast, hx] at this
        exact this)
      have HX := Lib.hid hx
      clear hx g0 g1 g2 g3 g4 g5 hav
      go_enter Try.func14, Try.ntmps14
      go_wp2_with fail
      go_loopw [5, 6] (fun o i wr => ∃ j : Nat, j ≤ kn ∧ i = .int .i64 (j : Int) ∧ o = .int .i64 (lastWith ns x.parent j) ∧ Hid (Qt w wr)) (fun _ i _ => kn - (intOf i).toNat)
      case atStart => exact ⟨0, by omega, rfl, rfl, Lib.hid (Qt.refl _)⟩
      case round =>
        obtain ⟨j, hj, rfl, rfl, HQ⟩ := hrel
        obtain ⟨wr0, hwr0⟩ : ∃ x, x = wr := ⟨_, rfl⟩
        subst hwr0
        by_cases hlt : j < kn
        · have hy := List.getElem?_eq_getElem (show j < ns.length by omega)
          generalize hgy : ns[j] = y at hy
          clear hgy
          obtain ⟨b2, off2, av2, hbb, g0, q1, g2, g3, g4, g5, hav⟩ := (HV.out.quiet HQ.out).at hy
          cases hbb
          obtain ⟨b3, off3, av3, hbb, g0', p1, g2', g3', g4', g5', hav'⟩ := (HV.out.quiet HQ.out).at HX.out
          cases hbb
          clear g0 g2 g3 g4 g5 hav g0' g2' g3' g4' g5' hav'
          obtain ⟨q, HQL⟩ : ∃ q, Hid (lastWith ns x.parent j = q) := ⟨_, rfl⟩
          have hnx : Hid (lastWith ns x.parent (j + 1) = if (y.parent == x.parent) = true then (j : Int) else q) := Lib.hid (by
            rw [← HQL.out, lastWith, hy]; rfl)
          rw [HQL.out]
          clear hy
          cases hc : (y.parent == x.parent) with
          | true =>
            rw [hc] at hnx
            go_wp2_with fail
            go_quiet (fail)
            go_wp2_with fail
            go_roundw
            case rel => exact ⟨j + 1, by omega, by go_num, by rw [hnx.out]; rfl, Lib.hid (Qt.trans HQ.out ⟨nq, rfl⟩)⟩
            case measure => simp [intOf]; omega
          | false =>
            rw [hc] at hnx
            go_wp2_with fail
            go_quiet (fail)
            go_wp2_with fail
            go_roundw
            case rel => exact ⟨j + 1, by omega, by go_num, by rw [hnx.out]; rfl, Lib.hid (Qt.trans HQ.out ⟨nq, rfl⟩)⟩
            case measure => simp [intOf]; omega
        · obtain rfl : j = kn := by omega
          go_wp2_with fail
          go_ret
          exact ⟨reti hr.out, HQ.out⟩

end Go.Proofs.Ytplbdlgmjehckaa
