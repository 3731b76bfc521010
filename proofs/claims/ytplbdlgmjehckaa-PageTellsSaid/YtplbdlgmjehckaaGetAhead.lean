/-
  page.Get, page.Ahead.
-/
import Derived.Test.YtplbdlgmjehckaaNdMem
import Derived.Test.YtplbdlgmjehckaaRet
import Derived.Deep.DeepCutAuto
import Derived.Deep.CutBlock
import Derived.Deep.Light
namespace Go.Proofs.Ytplbdlgmjehckaa
open Go.RowKit
set_option linter.unusedVariables false
set_option linter.unusedSimpArgs false

theorem pGet_hit {nm : B} {al : List PAttr} {k : Nat} {x : PAttr} (hb : ∀ j y, j < k → al[j]? = some y → (y.name == nm) = false) (hx : al[k]? = some x) (hn : (x.name == nm) = true) : pGet al nm = (x.val, true) := by
  have hf : al.find? (fun a => a.name == nm) = some x := by
    obtain ⟨hk, hxx⟩ := List.getElem?_eq_some_iff.1 hx
    rw [List.find?_eq_some_iff_getElem]
    refine ⟨hn, k, hk, hxx, fun j hj => ?_⟩
    have := hb j al[j] hj (List.getElem?_eq_getElem _)
    simp [this]
  unfold pGet; rw [hf]
theorem pGet_miss {nm : B} {al : List PAttr} (hb : ∀ (j : Nat) (y : PAttr), al[j]? = some y → (y.name == nm) = false) : pGet al nm = ([], false) := by
  have hf : al.find? (fun a => a.name == nm) = none := by
    rw [List.find?_eq_none]
    intro x hx
    obtain ⟨j, hj⟩ := List.mem_iff_getElem?.1 hx
    simp [hb j x hj]
  unfold pGet; rw [hf]

theorem retpair {a b : B × Bool} (h : a = b) : Ending.returned (.tuple #[.string (str a.1), .bool a.2]) = .returned (.tuple #[.string (str b.1), .bool b.2]) := by rw [h]

def GetEnds (w : World) (r : B × Bool) (e : Ending) (w' : World) : Prop := e = .returned (.tuple #[.string (str r.1), .bool r.2]) ∧ Below w.heap.size w w'

set_option maxHeartbeats 800000 in
theorem get_any (w : World) (v : Value) (n : PNode) (nm : B) (hv : AttrsAt w v n.attrs) :
    Calls Try.prog 15 #[.agg #[.string (str n.name), .int .i64 n.parent, v, .int .i64 n.nameEnd, .int .i64 n.inF, .int .i64 n.inT], .string (str nm)] w (GetEnds w (pGet n.attrs nm)) := by
  have HV := Lib.hid hv
  obtain ⟨a, cap, rfl, hle, hcap⟩ := hv.form
  obtain ⟨name, parent, al, nameEnd, inF, inT⟩ := n
  simp only at HV hle ⊢
  unfold maxLen at hcap
  clear hv
  go_enter Try.func15, Try.ntmps15
  go_wp2
  go_loopw [11] (fun i wr => ∃ k : Nat, k ≤ al.length ∧ i = .int .i64 k ∧ Below w.heap.size w wr ∧ Hid (∀ j y, j < k → al[j]? = some y → (y.name == nm) = false)) (fun i _ => al.length - (intOf i).toNat)
  case atStart => exact ⟨0, by omega, rfl, (Below.refl _ _).alloc (Nat.le_refl _) _, fun j y hj => by omega⟩
  case round =>
    obtain ⟨k, hk, rfl, hb, HH⟩ := hrel
    by_cases hlt : k < al.length
    · have hv1 := HV.out.below hb
      have hx := List.getElem?_eq_getElem hlt
      generalize hgx : al[k] = x at hx
      clear hgx
      obtain ⟨b, off, rfl, g0, g1, g2, g3⟩ := AttrsAt.at hv1 hx
      have HX := Lib.hid hx
      have HB := Lib.hid hb
      clear hx hv1 hb
      have hal := HB.out.alloc HB.out.size (.cells #[.string (str x.name), .string (str x.val), .int .i64 x.lo, .int .i64 x.hi] 41 (0, 0))
      have HAL := Lib.hid hal
      clear hal
      cases hc : (x.name == nm) with
      | true =>
        go_wp2
        refine bodyPost_ret (v := .tuple #[.string (str x.val), .bool true]) (by simp [results, Try.results15, go_sem]) rfl ?_
        exact ⟨retpair (a := (x.val, true)) (pGet_hit HH.out HX.out hc).symm, HAL.out⟩
      | false =>
        go_wp2
        go_roundw
        case rel =>
          refine ⟨k + 1, by omega, by go_num, HAL.out, fun j y hj hy => ?_⟩
          by_cases hjk : j = k
          · subst hjk
            rw [HX.out] at hy; cases hy
            exact hc
          · exact HH.out j y (by omega) hy
        case measure => simp [intOf]; omega
    · go_wp2
      refine bodyPost_ret (v := .tuple #[.string (str []), .bool false]) (by simp [results, Try.results15, go_sem]; rfl) rfl ?_
      refine ⟨retpair (b := pGet al nm) (a := ([], false)) ?_, hb⟩
      rw [pGet_miss (fun j y hy => HH.out j y (by have := (List.getElem?_eq_some_iff.1 hy).1; omega) hy)]

def AheadEnds (w : World) (r : Int) (e : Ending) (w' : World) : Prop := e = .returned (.int .i64 r) ∧ Qt w w'

set_option maxHeartbeats 1600000 in
theorem ahead_any (w : World) (v : Value) (ns : List PNode) (k : Int) (hv : NodesAt w v ns) (hk : -9223372036854775808 ≤ k ∧ k ≤ 9223372036854775807) :
    Calls Try.prog 13 #[v, .int .i64 k] w (AheadEnds w (pAhead ns k)) := by
  have HV := Lib.hid hv
  obtain ⟨a, cap, rfl, hle, hcap⟩ := hv.form
  unfold maxLen at hcap
  clear hv
  obtain ⟨hk1, hk2⟩ := hk
  obtain ⟨r, HR⟩ : ∃ r, Hid (pAhead ns k = r) := ⟨_, rfl⟩
  rw [HR.out]
  by_cases h0 : k < 0
  · go_enter Try.func13, Try.ntmps13
    go_wp2
    go_ret
    exact ⟨reti (by rw [← HR.out]; unfold pAhead; rw [if_pos (.inl h0)]), Qt.refl _⟩
  · by_cases h1 : (ns.length : Int) ≤ k
    · go_enter Try.func13, Try.ntmps13
      go_wp2
      go_ret
      exact ⟨reti (by rw [← HR.out]; unfold pAhead; rw [if_pos (.inr h1)]), Qt.refl _⟩
    · obtain ⟨kn, rfl⟩ : ∃ n : Nat, k = n := ⟨k.toNat, by omega⟩
      have hkl : kn < ns.length := by omega
      have hx := List.getElem?_eq_getElem hkl
      generalize hgx : ns[kn] = x at hx
      clear hgx
      obtain ⟨b, off, av, rfl, g0, g1, g2, g3, g4, g5, hav⟩ := HV.out.at hx
      have hr : lastWith ns x.parent kn = r := by
        have := HR.out
        unfold pAhead at this
        rw [if_neg (by omega), Int.toNat_natCast, hx] at this
        exact this
      have HX := Lib.hid hx
      clear hx g0 g2 g3 g4 g5 hav
      go_enter Try.func13, Try.ntmps13
      go_wp2
      have hst : Hid (lastWith ns x.parent kn = r) := Lib.hid hr
      clear hr
      go_loopw [5] (fun i wr => ∃ j : Nat, j ≤ kn ∧ i = .int .i64 ((j : Int) - 1) ∧ Hid (Qt w wr) ∧ Hid (lastWith ns x.parent j = r)) (fun i _ => (intOf i + 1).toNat)
      case atStart => exact ⟨kn, by omega, rfl, Qt.refl _, hst⟩
      case round =>
        obtain ⟨j, hj, rfl, HQ, HJ⟩ := hrel
        cases j with
        | zero =>
          go_wp2
          go_ret
          exact ⟨reti HJ.out, HQ.out⟩
        | succ i =>
          have hil : i < ns.length := by omega
          have hy := List.getElem?_eq_getElem hil
          generalize hgy : ns[i] = y at hy
          clear hgy
          obtain ⟨b2, off2, av2, hbb, g0, q1, g2, g3, g4, g5, hav⟩ := (HV.out.quiet HQ.out).at hy
          cases hbb
          obtain ⟨b3, off3, av3, hbb, g0', p1, g2', g3', g4', g5', hav'⟩ := (HV.out.quiet HQ.out).at HX.out
          cases hbb
          have HY := Lib.hid hy
          clear hy g0 g2 g3 g4 g5 hav g0' g2' g3' g4' g5' hav' g1
          have hi0 : ((i + 1 : Nat) : Int) - 1 = i := by omega
          have hJ := HJ.out
          rw [lastWith, HY.out] at hJ
          simp only [Option.any_some] at hJ
          rw [hi0]
          have HJJ := Lib.hid hJ
          clear hJ
          cases hc : (y.parent == x.parent) with
          | true =>
            go_wp2
            go_quiet (fail)
            go_wp2
            go_ret
            exact ⟨reti (by have := HJJ.out; rw [if_pos hc] at this; exact this), Qt.trans HQ.out ⟨nq, rfl⟩⟩
          | false =>
            go_wp2
            go_quiet (fail)
            go_wp2
            go_roundw
            case rel => exact ⟨i, by omega, rfl, Qt.trans HQ.out ⟨nq, rfl⟩, Lib.hid (by have := HJJ.out; rw [if_neg (by simp [hc])] at this; exact this)⟩
            case measure => simp [intOf]


end Go.Proofs.Ytplbdlgmjehckaa
