/-
  Lemmas for the claims of this seat: the program's functions walked, and plain laws. In this order: GetAhead Spl MtTest MtAt.
-/
import Derived.Test.YtplbdlgmjehckadGreatDoorPk13
import Derived.Test.YtplbdlgmjehckadGreatDoorPk9
import Derived.Deep.DeepCutAuto
import Derived.Deep.CutBlock
import Derived.Deep.Light
import Derived.Test.YtplbdlgmjehckadGreatDoorPk4
import Derived.Test.YtplbdlgmjehckadGreatDoorShelf
import Derived.Lib.SplitLaws
import Derived.Deep.RegionHeld3
import Derived.Deep.LoopGhost
namespace Go.Proofs.YtplbdlgmjehckadGreatDoor
open Go.RowKit
set_option linter.unusedVariables false
set_option linter.unusedSimpArgs false
theorem pGet_hit {nm : B} {al : List PAttr} {k : Nat} {x : PAttr} (hb : ∀ j y, j < k → al[j]? = some y → (y.name == nm) = false) (hx : al[k]? = some x) (hn : (x.name == nm) = true) : pGet al nm = (x.val, true) := by
  have hf : al.find? (fun a => a.name == nm) = some x := by
    obtain ⟨hk, hxx⟩ := List.getElem?_eq_some_iff.1 hx
    rw [List.find?_eq_some_iff_getElem]
    refine ⟨hn, k, hk, hxx, fun j hj => ?_⟩
    have := hb j al[j] hj (List.getElem?_eq_getElem _)
    simp [this]
  unfold pGet; rw [hf]
theorem pGet_miss {nm : B} {al : List PAttr} (hb : ∀ (j : Nat) (y : PAttr), al[j]? = some y → (y.name == nm) = false) : pGet al nm = ([], false) := by
  have hf : al.find? (fun a => a.name == nm) = none := by
    rw [List.find?_eq_none]
    intro x hx
    obtain ⟨j, hj⟩ := List.mem_iff_getElem?.1 hx
    simp [hb j x hj]
  unfold pGet; rw [hf]
theorem retpair {a b : B × Bool} (h : a = b) : Ending.returned (.tuple #[.string (str a.1), .bool a.2]) = .returned (.tuple #[.string (str b.1), .bool b.2]) := by rw [h]
def GetEnds (w : World) (r : B × Bool) (e : Ending) (w' : World) : Prop := e = .returned (.tuple #[.string (str r.1), .bool r.2]) ∧ Below w.heap.size w w'
set_option maxHeartbeats 800000 in
theorem get_any (w : World) (v : Value) (n : PNode) (nm : B) (hv : AttrsAt w v n.attrs) :
    Calls Tryz.prog 13 #[.agg #[.string (str n.name), .int .i64 n.parent, v, .int .i64 n.nameEnd, .int .i64 n.inF, .int .i64 n.inT], .string (str nm)] w (GetEnds w (pGet n.attrs nm)) := by
  have HV := Lib.hid hv
  obtain ⟨a, cap, rfl, hle, hcap⟩ := hv.form
  obtain ⟨name, parent, al, nameEnd, inF, inT⟩ := n
  simp only at HV hle ⊢
  unfold maxLen at hcap
  clear hv
  go_enter Tryz.func13, Tryz.ntmps13
  go_wp2
  go_loopw [11] (fun i wr => ∃ k : Nat, k ≤ al.length ∧ i = .int .i64 k ∧ Below w.heap.size w wr ∧ Hid (∀ j y, j < k → al[j]? = some y → (y.name == nm) = false)) (fun i _ => al.length - (intOf i).toNat)
  case atStart => exact ⟨0, by omega, rfl, (Below.refl _ _).alloc (Nat.le_refl _) _, fun j y hj => by omega⟩
  case round =>
    obtain ⟨k, hk, rfl, hb, HH⟩ := hrel
    by_cases hlt : k < al.length
    · have hv1 := HV.out.below hb
      have hx := List.getElem?_eq_getElem hlt
      generalize hgx : al[k] = x at hx
      clear hgx
      obtain ⟨b, off, rfl, g0, g1, g2, g3⟩ := AttrsAt.at hv1 hx
      have HX := Lib.hid hx
      have HB := Lib.hid hb
      clear hx hv1 hb
      have hal := HB.out.alloc HB.out.size (.cells #[.string (str x.name), .string (str x.val), .int .i64 x.lo, .int .i64 x.hi] 77 (0, 0))
      have HAL := Lib.hid hal
      clear hal
      cases hc : (x.name == nm) with
      | true =>
        go_wp2
        refine bodyPost_ret (v := .tuple #[.string (str x.val), .bool true]) (by simp [results, Tryz.results13, go_sem]) rfl ?_
        exact ⟨retpair (a := (x.val, true)) (pGet_hit HH.out HX.out hc).symm, HAL.out⟩
      | false =>
        go_wp2
        go_roundw
        case rel =>
          refine ⟨k + 1, by omega, by go_num, HAL.out, fun j y hj hy => ?_⟩
          by_cases hjk : j = k
          · subst hjk
            rw [HX.out] at hy; cases hy
            exact hc
          · exact HH.out j y (by omega) hy
        case measure => simp [intOf]; omega
    · go_wp2
      refine bodyPost_ret (v := .tuple #[.string (str []), .bool false]) (by simp [results, Tryz.results13, go_sem]; rfl) rfl ?_
      refine ⟨retpair (b := pGet al nm) (a := ([], false)) ?_, hb⟩
      rw [pGet_miss (fun j y hy => HH.out j y (by have := (List.getElem?_eq_some_iff.1 hy).1; omega) hy)]
def AheadEnds (w : World) (r : Int) (e : Ending) (w' : World) : Prop := e = .returned (.int .i64 r) ∧ Qt w w'
set_option maxHeartbeats 1600000 in
theorem ahead_any (w : World) (v : Value) (ns : List PNode) (k : Int) (hv : NodesAt w v ns) (hk : -9223372036854775808 ≤ k ∧ k ≤ 9223372036854775807) :
    Calls Tryz.prog 131 #[v, .int .i64 k] w (AheadEnds w (pAhead ns k)) := by
  have HV := Lib.hid hv
  obtain ⟨a, cap, rfl, hle, hcap⟩ := hv.form
  unfold maxLen at hcap
  clear hv
  obtain ⟨hk1, hk2⟩ := hk
  obtain ⟨r, HR⟩ : ∃ r, Hid (pAhead ns k = r) := ⟨_, rfl⟩
  rw [HR.out]
  by_cases h0 : k < 0
  · go_enter Tryz.func131, Tryz.ntmps131
    go_wp2
    go_ret
    exact ⟨reti (by rw [← HR.out]; unfold pAhead; rw [if_pos (.inl h0)]), Qt.refl _⟩
  · by_cases h1 : (ns.length : Int) ≤ k
    · go_enter Tryz.func131, Tryz.ntmps131
      go_wp2
      go_ret
      exact ⟨reti (by rw [← HR.out]; unfold pAhead; rw [if_pos (.inr h1)]), Qt.refl _⟩
    · obtain ⟨kn, rfl⟩ : ∃ n : Nat, k = n := ⟨k.toNat, by omega⟩
      have hkl : kn < ns.length := by omega
      have hx := List.getElem?_eq_getElem hkl
      generalize hgx : ns[kn] = x at hx
      clear hgx
      obtain ⟨b, off, av, rfl, g0, g1, g2, g3, g4, g5, hav⟩ := HV.out.at hx
      have hr : lastWith ns x.parent kn = r := by
        have := HR.out
        unfold pAhead at this
        rw [if_neg (by omega), Int.toNat_natCast, hx] at this
        exact this
      have HX := Lib.hid hx
      clear hx g0 g2 g3 g4 g5 hav
      go_enter Tryz.func131, Tryz.ntmps131
      go_wp2
      have hst : Hid (lastWith ns x.parent kn = r) := Lib.hid hr
      clear hr
      go_loopw [5] (fun i wr => ∃ j : Nat, j ≤ kn ∧ i = .int .i64 ((j : Int) - 1) ∧ Hid (Qt w wr) ∧ Hid (lastWith ns x.parent j = r)) (fun i _ => (intOf i + 1).toNat)
      case atStart => exact ⟨kn, by omega, rfl, Qt.refl _, hst⟩
      case round =>
        obtain ⟨j, hj, rfl, HQ, HJ⟩ := hrel
        cases j with
        | zero =>
          go_wp2
          go_ret
          exact ⟨reti HJ.out, HQ.out⟩
        | succ i =>
          have hil : i < ns.length := by omega
          have hy := List.getElem?_eq_getElem hil
          generalize hgy : ns[i] = y at hy
          clear hgy
          obtain ⟨b2, off2, av2, hbb, g0, q1, g2, g3, g4, g5, hav⟩ := (HV.out.quiet HQ.out).at hy
          cases hbb
          obtain ⟨b3, off3, av3, hbb, g0', p1, g2', g3', g4', g5', hav'⟩ := (HV.out.quiet HQ.out).at HX.out
          cases hbb
          have HY := Lib.hid hy
          clear hy g0 g2 g3 g4 g5 hav g0' g2' g3' g4' g5' hav' g1
          have hi0 : ((i + 1 : Nat) : Int) - 1 = i := by omega
          have hJ := HJ.out
          rw [lastWith, HY.out] at hJ
          simp only [Option.any_some] at hJ
          rw [hi0]
          have HJJ := Lib.hid hJ
          clear hJ
          cases hc : (y.parent == x.parent) with
          | true =>
            go_wp2
            go_quiet (fail)
            go_wp2
            go_ret
            exact ⟨reti (by have := HJJ.out; rw [if_pos hc] at this; exact this), Qt.trans HQ.out ⟨nq, rfl⟩⟩
          | false =>
            go_wp2
            go_quiet (fail)
            go_wp2
            go_roundw
            case rel => exact ⟨i, by omega, rfl, Qt.trans HQ.out ⟨nq, rfl⟩, Lib.hid (by have := HJJ.out; rw [if_neg (by simp [hc])] at this; exact this)⟩
            case measure => simp [intOf]
end Go.Proofs.YtplbdlgmjehckadGreatDoor

namespace Go.Proofs.YtplbdlgmjehckadGreatDoor
open Go.RowKit
set_option linter.unusedVariables false
set_option linter.unusedSimpArgs false
theorem index_blank (l : B) : Lib.index (32 :: l) [32] = 0 := by rw [Lib.index]; simp [List.isPrefixOf]
theorem index_other {c : UInt8} (l : B) (h : c ≠ 32) : Lib.index (c :: l) [32] = if Lib.index l [32] == -1 then -1 else Lib.index l [32] + 1 := by
  have hp : ([32] : List UInt8).isPrefixOf (c :: l) = false := by simp [List.isPrefixOf, Ne.symm h]
  rw [Lib.index, hp]; simp
theorem splitK_blank : ∀ (l : B) (k : Nat), l.count 32 = k → Lib.splitK [32] 0 k l = splitB l
  | [], k, h => by
    have : k = 0 := by rw [← h]; rfl
    subst this; rfl
  | c :: t, k, h => by
    by_cases hc : c = 32
    · subst hc
      rw [List.count_cons_self] at h
      subst h
      simp only [Lib.splitK, index_blank, splitB, if_pos]
      rw [if_neg (by simp)]
      simp only [Int.toNat_zero, Nat.zero_add, List.take_zero, List.length_cons, List.length_nil, List.drop_succ_cons, List.drop_zero]
      rw [splitK_blank t _ rfl]
    · rw [List.count_cons_of_ne (by simpa using hc)] at h
      have ih := splitK_blank t k h
      simp only [splitB]
      rw [if_neg hc, ← ih]
      cases k with
      | zero => simp [Lib.splitK]
      | succ j =>
        have hi : Lib.index t [32] ≠ -1 := by
          intro hm
          have := Lib.count_miss (sub := [32]) hm
          rw [Lib.count_one] at this
          omega
        have hge := Lib.index_ge t [32]
        obtain ⟨i, hi2⟩ : ∃ i : Nat, Lib.index t [32] = i := ⟨(Lib.index t [32]).toNat, by omega⟩
        simp only [Lib.splitK, index_other t hc, hi2]
        have h1 : ¬ (((i : Int) == -1) = true) := by simp
        have h2 : ¬ (((i : Int) + 1 == -1) = true) := by simp; omega
        simp only [if_neg h1, if_neg h2]
        have e : ((i : Int) + 1).toNat = i + 1 := by omega
        simp [e]
theorem split_words (l : B) : Lib.splitB (str [32]) 0 (Lib.countB (str l) (str [32])) (str l) = (splitB l).map str := by
  have h := Lib.splitB_data (str [32]) 0 (Lib.countB (str l) (str [32])) (str l)
  have hc : Lib.countB (str l) (str [32]) = l.count 32 := by
    show Lib.count l [32] = _
    rw [Lib.count_one]
  have h2 : Lib.splitK (str [32]).data.toList 0 (Lib.countB (str l) (str [32])) (str l).data.toList = splitB l := by
    rw [hc]; exact splitK_blank l _ rfl
  rw [h2] at h
  rw [← h, List.map_map]
  conv => lhs; rw [← List.map_id (Lib.splitB (str [32]) 0 (Lib.countB (str l) (str [32])) (str l))]
  apply List.map_congr_left
  intro x _
  exact eq_str x
theorem split_count (l : B) : Lib.countB (str l) (str [32]) + 1 = (splitB l).length := by
  have h := Lib.splitB_all (str [32]) (by decide) 0 _ (str l) rfl
  rw [split_words, List.length_map] at h
  exact h.symm
theorem splitB_len (l : B) : (splitB l).length ≤ l.length + 1 := by
  induction l with
  | nil => simp [splitB]
  | cons c t ih =>
    simp only [splitB]
    split
    · simpa using ih
    · split
      · simp
      · rename_i w ws h; rw [h] at ih; simp at ih ⊢; omega
def strCells (x : B) : List Value := [.string (str x)]
theorem split_any (l : B) (m : Int) (w : World) (hl : l.length < 4294967281) (hm : w.cell? ⟨0, 0, none⟩ = some (.int .i64 m)) :
    Calls Tryz.prog 74 #[.string (str l), .string (str [32])] w fun e w' => e = .returned (.slice (some ⟨w.heap.size, 0, none⟩) (splitB l).length (splitB l).length) ∧
      w' = w.alloc (.cells ((splitB l).map fun x => Value.string (str x)).toArray 9 (0, 0)) :=
  (Tryz.strings_Split (str l) (str [32]) m w hl hm (by decide)).mono fun e w' ⟨he, hw⟩ => by
    rw [split_count] at he
    rw [split_words, List.map_map] at hw
    exact ⟨he, hw⟩
end Go.Proofs.YtplbdlgmjehckadGreatDoor

namespace Go.Proofs.YtplbdlgmjehckadGreatDoor
open Go.RowKit
set_option linter.unusedVariables false
set_option linter.unusedSimpArgs false
def TestAt (w : World) (b o : Nat) (t : PTest) : Prop := w.cell? ⟨b, o, none⟩ = some (.int .i64 t.kind) ∧ w.cell? ⟨b, o + 1, none⟩ = some (.string (str t.name)) ∧ w.cell? ⟨b, o + 2, none⟩ = some (.string (str t.val))
theorem TestAt.below {w w' : World} {b o : Nat} {t : PTest} (h : TestAt w b o t) (hk : Kept (fun _ => False) w w') : TestAt w' b o t := ⟨hk.cell id h.1, hk.cell id h.2.1, hk.cell id h.2.2⟩
def Short (ns : List PNode) : Prop := ∀ n ∈ ns, ∀ a ∈ n.attrs, a.val.length ≤ 1048576
theorem get_short {ns : List PNode} (h : Short ns) {n : PNode} (hn : n ∈ ns) (nm : B) : (pGet n.attrs nm).1.length ≤ 1048576 := by
  unfold pGet
  cases hf : n.attrs.find? (fun a => a.name == nm) with
  | none => simp
  | some a => exact h n hn a (List.mem_of_find?_eq_some hf)
theorem contains_bytes (l : List B) (x : B) : Lib.containsS ((l.map str).take l.length) (str x) = l.contains x := by
  rw [List.take_of_length_le (by simp), Bool.eq_iff_iff, Lib.containsS_iff, List.contains_iff_mem, List.mem_map]
  constructor
  · rintro ⟨y, hy, h⟩
    rw [← str_inj h]; exact hy
  · intro h; exact ⟨x, h, rfl⟩
theorem contains_any (w : World) (v : Value) (l : List B) (x : B) (h : StrsAt w v l) :
    Calls Tryz.prog 102 #[v, .string (str x)] w fun e w' => e = .returned (.bool (l.contains x)) ∧ w' = w := by
  obtain ⟨a, cap, rfl, h1, h2⟩ := StrsAt.form h
  unfold maxLen at h2
  by_cases h0 : l = []
  · subst h0
    exact Tryz.slices_Contains_string_empty a cap (str x) w
  · obtain ⟨b, off, rfl⟩ := RowsAt.addr h (by simpa using h0)
    have := Tryz.slices_Contains_string b off l.length cap (l.map str) (str x) w (by simp) (by omega) (fun j hj => by
      simp only [List.length_map] at hj
      obtain ⟨b', o', hbb, hc⟩ := StrsAt.at h (List.getElem?_eq_getElem hj)
      cases hbb
      rw [hc]
      simp [List.getD, List.getElem?_eq_getElem hj])
    rw [contains_bytes] at this
    exact this
theorem strs_block {w : World} {bk : Nat} {l : List B} (hl : l.length ≤ maxLen) (hh : w.heap[bk]? = some (.cells (l.map fun x => Value.string (str x)).toArray 9 (0, 0))) : StrsAt w (.slice (some ⟨bk, 0, none⟩) l.length l.length) l :=
  ⟨_, _, by rw [List.length_map], by simp, hl, fun _ => ⟨_, _, rfl, fun i r hr j c hc => by
    rw [List.getElem?_map, Option.map_eq_some_iff] at hr
    obtain ⟨x, hx, rfl⟩ := hr
    cases j with
    | zero =>
      simp at hc; subst hc
      exact cellIn hh _ (by simp [hx])
    | succ j => simp at hc⟩⟩
theorem split_reads (l : B) (m : Int) (w : World) (hl : l.length ≤ 1048576) (hm : w.cell? ⟨0, 0, none⟩ = some (.int .i64 m)) :
    Calls Tryz.prog 74 #[.string (str l), .string (str [32])] w fun e w' => e = .returned (.slice (some ⟨w.heap.size, 0, none⟩) (splitB l).length (splitB l).length) ∧ Kept (fun _ => False) w w' ∧
      StrsAt w' (.slice (some ⟨w.heap.size, 0, none⟩) (splitB l).length (splitB l).length) (splitB l) :=
  (split_any l m w (by omega) hm).mono fun e w' ⟨he, hw⟩ => by
    subst hw
    exact ⟨he, (Kept.refl _ w).alloc _, strs_block (by have := splitB_len l; unfold maxLen; omega) (newIn w _)⟩
theorem contains_reads (w : World) (v : Value) (l : List B) (x : B) (h : StrsAt w v l) :
    Calls Tryz.prog 102 #[v, .string (str x)] w fun e w' => e = .returned (.bool (l.contains x)) ∧ Kept (fun _ => False) w w' :=
  (contains_any w v l x h).mono fun e w' ⟨h1, h2⟩ => ⟨h1, by subst h2; exact Kept.refl _ _⟩
theorem get_reads (w : World) (v : Value) (n : PNode) (nm : B) (hv : AttrsAt w v n.attrs) :
    Calls Tryz.prog 13 #[.agg #[.string (str n.name), .int .i64 n.parent, v, .int .i64 n.nameEnd, .int .i64 n.inF, .int .i64 n.inT], .string (str nm)] w fun e w' =>
      e = .returned (.tuple #[.string (str (pGet n.attrs nm).1), .bool (pGet n.attrs nm).2]) ∧ Kept (fun _ => False) w w' :=
  (get_any w v n nm hv).mono fun e w' ⟨h1, h2⟩ => ⟨h1, Kept.of_below h2⟩
def nodeVal (n : PNode) (av : Value) : Value := .agg #[.string (str n.name), .int .i64 n.parent, av, .int .i64 n.nameEnd, .int .i64 n.inF, .int .i64 n.inT]
structure CopyAt (w : World) (c : Nat) (n : PNode) (av : Value) : Prop where
  heap : w.heap[c]? = some (.cells #[.string (str n.name), .int .i64 n.parent, av, .int .i64 n.nameEnd, .int .i64 n.inF, .int .i64 n.inT] 56 (0, 0))
  attrs : AttrsAt w av n.attrs
set_option maxRecDepth 100000 in
set_option maxHeartbeats 1600000 in
theorem test_any (w : World) (v : Value) (ns : List PNode) (k : Nat) (hv : NodesAt w v ns) (hk : k < ns.length) (hs : Short ns) (hn0 : ns.length ≤ 1048576) (b o : Nat) (t : PTest) (ht : TestAt w b o t) (m : Int) (hm : w.cell? ⟨0, 0, none⟩ = some (.int .i64 m)) :
    Calls Tryz.prog 141 #[v, .int .i64 (k : Int), .pointer (some ⟨b, o, none⟩)] w fun e w' => e = .returned (.bool (mTest ns k t)) ∧ Below w.heap.size w w' := by
  obtain ⟨r, HR⟩ : ∃ r, Hid (mTest ns k t = r) := ⟨_, rfl⟩
  rw [HR.out]
  obtain ⟨a, cap, rfl, hle, hcap⟩ := hv.form
  unfold maxLen at hcap
  have hx := List.getElem?_eq_getElem hk
  generalize hgx : ns[k] = n at hx
  clear hgx
  obtain ⟨nb, noff, av, rfl, g0, g1, g2, g3, g4, g5, hav⟩ := hv.at hx
  obtain ⟨aa, acap, rfl, hac1, hac2⟩ := hav.form
  unfold maxLen at hac2
  have HV := Lib.hid hv
  have HX := Lib.hid hx
  have HM := Lib.hid hm
  have hR : Hid (mTestN ns k n t = r) := Lib.hid (by rw [← HR.out]; unfold mTest; rw [hx])
  have HGS := Lib.hid (get_short hs (List.mem_of_getElem? hx))
  obtain ⟨t0, t1, t2⟩ := ht
  clear hx hv hm hs
  go_enter Tryz.func141, Tryz.ntmps141
  go_upto_region 2 with fail
  obtain ⟨wa, HWA⟩ : ∃ x', Hid (w.alloc (.cells #[.string (str n.name), .int .i64 n.parent, .slice aa n.attrs.length acap, .int .i64 n.nameEnd, .int .i64 n.inF, .int .i64 n.inT] 56 (0, 0)) = x') := ⟨_, rfl⟩
  have ka : Kept (fun _ => False) w wa := by rw [← HWA.out]; exact (Kept.refl _ w).alloc _
  have hh : wa.heap[w.heap.size]? = some (.cells #[.string (str n.name), .int .i64 n.parent, .slice aa n.attrs.length acap, .int .i64 n.nameEnd, .int .i64 n.inF, .int .i64 n.inT] 56 (0, 0)) := by rw [← HWA.out]; exact newIn w _
  have n0 : wa.cell? ⟨w.heap.size, 0, none⟩ = some (.string (str n.name)) := cellIn hh 0 rfl
  have n1 : wa.cell? ⟨w.heap.size, 1, none⟩ = some (.int .i64 n.parent) := cellIn hh 1 rfl
  have n2 : wa.cell? ⟨w.heap.size, 2, none⟩ = some (.slice aa n.attrs.length acap) := cellIn hh 2 rfl
  have n3 : wa.cell? ⟨w.heap.size, 3, none⟩ = some (.int .i64 n.nameEnd) := cellIn hh 3 rfl
  have n4 : wa.cell? ⟨w.heap.size, 4, none⟩ = some (.int .i64 n.inF) := cellIn hh 4 rfl
  have n5 : wa.cell? ⟨w.heap.size, 5, none⟩ = some (.int .i64 n.inT) := cellIn hh 5 rfl
  have q0 : wa.cell? ⟨b, o, none⟩ = some (.int .i64 t.kind) := ka.cell id t0
  have q1 : wa.cell? ⟨b, o + 1, none⟩ = some (.string (str t.name)) := ka.cell id t1
  have q2 : wa.cell? ⟨b, o + 2, none⟩ = some (.string (str t.val)) := ka.cell id t2
  have HAV := Lib.hid (RowsAt.below hav ka.below)
  have HVA := Lib.hid (nodes_firm.kept HV.out ka)
  have hm1 := ka.cell id HM.out
  have HM1 := Lib.hid hm1
  have KA := Lib.hid ka
  clear hm1 ka hh t0 t1 t2 g0 g1 g2 g3 g4 g5 hav
  rw [HWA.out]
  by_cases h1 : t.kind = 1
  · have e1 : (t.kind == 1) = true := by simp [h1]
    have HRR : Hid ((n.name == t.name) = r) := Lib.hid (by rw [← hR.out]; unfold mTestN; rw [if_pos h1])
    clear h1
    go_wp2_with fail
    go_quiet (fail)
    go_wp2_with fail
    go_ret
    exact ⟨retb HRR.out, (KA.out.drewN _).below⟩
  · have e1 : (t.kind == 1) = false := by simp [h1]
    by_cases h2 : t.kind = 2
    · have e2 : (t.kind == 2) = true := by simp [h2]
      have HRR : Hid ((!t.name.isEmpty && (splitB (pGet n.attrs className).1).contains t.name) = r) := Lib.hid (by rw [← hR.out]; unfold mTestN; rw [if_neg h1, if_pos h2])
      have HGC := Lib.hid (HGS.out className)
      clear h1 h2
      go_wp2_with fail
      refine (get_any wa _ n className HAV.out).mono ?_
      rintro e w2 ⟨rfl, hb2⟩
      generalize pGet n.attrs className = g at *
      obtain ⟨gv, gb⟩ := g
      simp only at HRR HGC
      have q1' := (Kept.of_below (S := fun _ => False) hb2).cell id q1
      have hm2 := (Kept.of_below (S := fun _ => False) hb2).cell id HM1.out
      have K2 := Lib.hid (KA.out.trans (Kept.of_below hb2))
      clear hb2 q0 q1 q2 n0 n1 n2 n3 n4 n5
      cases hnm : t.name.isEmpty with
      | true =>
        rw [hnm] at HRR
        have e3 : (t.name == []) = true := by simpa using hnm
        go_wp2_with fail
        go_quiet (fail)
        go_wp2_with fail
        go_ret
        exact ⟨retb HRR.out, (K2.out.drewN _).below⟩
      | false =>
        rw [hnm] at HRR
        have e3 : (t.name == []) = false := by simpa using hnm
        go_upto_region 7 with fail
        go_region_held3 (fun w' => w'.cell? ⟨b, o + 1, none⟩ = some (.string (str t.name)) ∧ w'.cell? ⟨0, 0, none⟩ = some (.int .i64 m)) (first | go_keep | (go_split_ands; exact ⟨hk6.cell id (by assumption), hk6.cell id (by assumption)⟩) | (go_split_ands; exact ⟨hk5.cell id (by assumption), hk5.cell id (by assumption)⟩))
          ((first
            | (go_at_call 74; refine (split_reads gv m _ (by have := HGC.out; omega) (by assumption)).mono ?_; rintro e w5 ⟨rfl, hk5, hst5⟩)
            | (go_at_call 102; refine (contains_reads _ _ _ t.name (by exact hst5)).mono ?_; rintro e w6 ⟨rfl, hk6⟩)))
        go_wp2_with fail
        go_ret
        exact ⟨retb (by rw [← HRR.out]; simp), ((K2.out.drew.trans hk5).trans hk6).below⟩
    · have e2 : (t.kind == 2) = false := by simp [h2]
      by_cases h3 : t.kind = 3
      · have e3 : (t.kind == 3) = true := by simp [h3]
        have HRR : Hid (((pGet n.attrs idName).2 && (pGet n.attrs idName).1 == t.name) = r) := Lib.hid (by rw [← hR.out]; unfold mTestN; rw [if_neg h1, if_neg h2, if_pos h3])
        clear h1 h2 h3
        go_wp2_with fail
        refine (get_any wa (.slice aa n.attrs.length acap) n idName HAV.out).mono ?_
        rintro e w2 ⟨rfl, hb2⟩
        generalize pGet n.attrs idName = g at *
        obtain ⟨gv, gb⟩ := g
        have q1' := (Kept.of_below (S := fun _ => False) hb2).cell id q1
        have K2 := Lib.hid (KA.out.trans (Kept.of_below hb2))
        clear hb2 q0 q1 q2 n0 n1 n2 n3 n4 n5
        cases gb with
        | true =>
          go_wp2_with fail
          go_ret
          exact ⟨retb HRR.out, K2.out.below⟩
        | false =>
          go_wp2_with fail
          go_ret
          exact ⟨retb HRR.out, K2.out.below⟩
      · have e3 : (t.kind == 3) = false := by simp [h3]
        by_cases h4 : t.kind = 4
        · have e4 : (t.kind == 4) = true := by simp [h4]
          have HRR : Hid ((pGet n.attrs t.name).2 = r) := Lib.hid (by rw [← hR.out]; unfold mTestN; rw [if_neg h1, if_neg h2, if_neg h3, if_pos h4])
          clear h1 h2 h3 h4
          go_upto_region 12 with fail
          go_region_held3 (fun w' => w'.cell? ⟨w.heap.size, 0, none⟩ = some (.string (str n.name)) ∧ w'.cell? ⟨w.heap.size, 1, none⟩ = some (.int .i64 n.parent) ∧ w'.cell? ⟨w.heap.size, 2, none⟩ = some (.slice aa n.attrs.length acap) ∧ w'.cell? ⟨w.heap.size, 3, none⟩ = some (.int .i64 n.nameEnd) ∧ w'.cell? ⟨w.heap.size, 4, none⟩ = some (.int .i64 n.inF) ∧ w'.cell? ⟨w.heap.size, 5, none⟩ = some (.int .i64 n.inT) ∧ w'.cell? ⟨b, o + 1, none⟩ = some (.string (str t.name)) ∧ w'.cell? ⟨b, o + 2, none⟩ = some (.string (str t.val))) (first | go_keep | (go_split_ands; exact ⟨hk5.cell id (by assumption), hk5.cell id (by assumption), hk5.cell id (by assumption), hk5.cell id (by assumption), hk5.cell id (by assumption), hk5.cell id (by assumption), hk5.cell id (by assumption), hk5.cell id (by assumption)⟩))
            ((go_at_call 13; refine (get_reads _ _ n t.name (by exact HAV.out)).mono ?_; rintro e w5 ⟨rfl, hk5⟩))
          go_wp2_with fail
          go_ret
          exact ⟨retb HRR.out, (KA.out.drew.trans hk5).below⟩
        · have e4 : (t.kind == 4) = false := by simp [h4]
          by_cases h5 : t.kind = 5
          · have e5 : (t.kind == 5) = true := by simp [h5]
            have HRR : Hid (((pGet n.attrs t.name).2 && (pGet n.attrs t.name).1 == t.val) = r) := Lib.hid (by rw [← hR.out]; unfold mTestN; rw [if_neg h1, if_neg h2, if_neg h3, if_neg h4, if_pos h5])
            clear h1 h2 h3 h4 h5
            go_upto_region 15 with fail
            go_region_held3 (fun w' => w'.cell? ⟨w.heap.size, 0, none⟩ = some (.string (str n.name)) ∧ w'.cell? ⟨w.heap.size, 1, none⟩ = some (.int .i64 n.parent) ∧ w'.cell? ⟨w.heap.size, 2, none⟩ = some (.slice aa n.attrs.length acap) ∧ w'.cell? ⟨w.heap.size, 3, none⟩ = some (.int .i64 n.nameEnd) ∧ w'.cell? ⟨w.heap.size, 4, none⟩ = some (.int .i64 n.inF) ∧ w'.cell? ⟨w.heap.size, 5, none⟩ = some (.int .i64 n.inT) ∧ w'.cell? ⟨b, o + 1, none⟩ = some (.string (str t.name)) ∧ w'.cell? ⟨b, o + 2, none⟩ = some (.string (str t.val))) (first | go_keep | (go_split_ands; exact ⟨hk5.cell id (by assumption), hk5.cell id (by assumption), hk5.cell id (by assumption), hk5.cell id (by assumption), hk5.cell id (by assumption), hk5.cell id (by assumption), hk5.cell id (by assumption), hk5.cell id (by assumption)⟩))
              ((go_at_call 13; refine (get_reads _ _ n t.name (by exact HAV.out)).mono ?_; rintro e w5 ⟨rfl, hk5⟩))
            have v5 : w5.cell? ⟨b, o + 2, none⟩ = some (.string (str t.val)) := hk5.cell id q2
            generalize pGet n.attrs t.name = g at *
            obtain ⟨gv, gb⟩ := g
            cases gb with
            | true =>
              go_wp2_with fail
              go_ret
              exact ⟨retb HRR.out, (KA.out.drew.trans hk5).below⟩
            | false =>
              go_wp2_with fail
              go_ret
              exact ⟨retb HRR.out, (KA.out.drew.trans hk5).below⟩
          · have e5 : (t.kind == 5) = false := by simp [h5]
            by_cases h6 : t.kind = 6
            · have e6 : (t.kind == 6) = true := by simp [h6]
              have HRR : Hid (decide (pAhead ns (k : Int) < 0) = r) := Lib.hid (by rw [← hR.out]; unfold mTestN; rw [if_neg h1, if_neg h2, if_neg h3, if_neg h4, if_neg h5, if_pos h6])
              clear h1 h2 h3 h4 h5 h6
              have hkk : -9223372036854775808 ≤ (k : Int) ∧ (k : Int) ≤ 9223372036854775807 := by omega
              have HKK := Lib.hid hkk
              go_wp2_with (go_at_call 131; refine (ahead_any _ _ ns (k : Int) HVA.out HKK.out).mono ?_; rintro e w5 ⟨rfl, hq5⟩)
              go_ret
              exact ⟨retb (by rw [← HRR.out]), (KA.out.trans (hq5.kept _)).below⟩
            · have e6 : (t.kind == 6) = false := by simp [h6]
              have HRR : Hid (false = r) := Lib.hid (by rw [← hR.out]; unfold mTestN; rw [if_neg h1, if_neg h2, if_neg h3, if_neg h4, if_neg h5, if_neg h6])
              clear h1 h2 h3 h4 h5 h6
              go_wp2_with fail
              go_ret
              exact ⟨retb HRR.out, KA.out.below⟩
end Go.Proofs.YtplbdlgmjehckadGreatDoor

namespace Go.Proofs.YtplbdlgmjehckadGreatDoor
open Go.RowKit
set_option linter.unusedVariables false
set_option linter.unusedSimpArgs false
def PartAt (w : World) (b o : Nat) (p : PPart) : Prop := ∃ tv, w.cell? ⟨b, o, none⟩ = some (.int .i64 p.join) ∧ w.cell? ⟨b, o + 1, none⟩ = some tv ∧ TestsAt w tv p.tests
theorem PartAt.kept {w w' : World} {b o : Nat} {p : PPart} (h : PartAt w b o p) (hk : Kept (fun _ => False) w w') : PartAt w' b o p := by
  obtain ⟨tv, h1, h2, h3⟩ := h
  exact ⟨tv, hk.cell id h1, hk.cell id h2, tests_firm.kept h3 hk⟩
set_option maxRecDepth 100000 in
set_option maxHeartbeats 1600000 in
theorem part_any (w : World) (v : Value) (ns : List PNode) (k : Nat) (hv : NodesAt w v ns) (hk : k < ns.length) (hs : Short ns) (hn0 : ns.length ≤ 1048576) (b o : Nat) (p : PPart) (hp : PartAt w b o p) (m : Int) (hm : w.cell? ⟨0, 0, none⟩ = some (.int .i64 m)) :
    Calls Tryz.prog 130 #[v, .int .i64 (k : Int), .pointer (some ⟨b, o, none⟩)] w fun e w' => e = .returned (.bool (mPart ns k p)) ∧ Kept (fun _ => False) w w' := by
  obtain ⟨r, HR⟩ : ∃ r, Hid (mPart ns k p = r) := ⟨_, rfl⟩
  rw [HR.out]
  obtain ⟨tv, p0, p1, ht⟩ := hp
  obtain ⟨ta, tc, rfl, htc1, htc2⟩ := TestsAt.form ht
  unfold maxLen at htc2
  have HT := Lib.hid ht
  have HV := Lib.hid hv
  have HS := Lib.hid hs
  have HM := Lib.hid hm
  have HP1 := Lib.hid p1
  clear hv hs hm ht p0
  go_enter Tryz.func130, Tryz.ntmps130
  go_wp2_with fail
  go_loopw [13] (fun i wr => ∃ j : Nat, j ≤ p.tests.length ∧ i = .int .i64 j ∧ Hid (Kept (fun _ => False) w wr) ∧ Hid ((p.tests.take j).all (mTest ns k) = true)) (fun i _ => p.tests.length - (intOf i).toNat)
  case atStart => exact ⟨0, by omega, rfl, Lib.hid (Kept.refl _ _), Lib.hid rfl⟩
  case round =>
    obtain ⟨j, hj, rfl, HK, HJ⟩ := hrel
    by_cases hlt : j < p.tests.length
    · have hx := List.getElem?_eq_getElem hlt
      generalize hgx : p.tests[j] = t at hx
      clear hgx
      obtain ⟨tb, to_, rfl, t0, t1, t2⟩ := TestsAt.at (tests_firm.kept HT.out HK.out) hx
      have HTA : Hid (TestAt wr tb (to_ + j * 3) t) := Lib.hid ⟨t0, t1, t2⟩
      have hpc : wr.cell? ⟨b, o + 1, none⟩ = some (.slice (some ⟨tb, to_, none⟩) p.tests.length tc) := HK.out.cell id HP1.out
      have hm1 := Lib.hid (HK.out.cell id HM.out)
      have HX := Lib.hid hx
      clear hx t0 t1 t2 p1
      cases htst : mTest ns k t with
      | false =>
        have hr : Hid (false = r) := Lib.hid (by
          rw [← HR.out]
          unfold mPart
          symm
          rw [List.all_eq_false]
          exact ⟨t, List.mem_of_getElem? HX.out, by simp [htst]⟩)
        have HTS := Lib.hid htst
        clear htst
        go_wp2_with (go_at_call 141; refine (test_any wr _ ns k (nodes_firm.kept HV.out HK.out) hk HS.out hn0 tb (to_ + j * 3) t HTA.out m hm1.out).mono ?_; rintro e w2 ⟨rfl, hb2⟩; rw [HTS.out])
        go_ret
        exact ⟨retb hr.out, HK.out.trans (Kept.of_below hb2)⟩
      | true =>
        have HTS := Lib.hid htst
        clear htst
        go_wp2_with (go_at_call 141; refine (test_any wr _ ns k (nodes_firm.kept HV.out HK.out) hk HS.out hn0 tb (to_ + j * 3) t HTA.out m hm1.out).mono ?_; rintro e w2 ⟨rfl, hb2⟩; rw [HTS.out])
        go_roundw
        case measure => simp [intOf]; omega
        case rel =>
          refine ⟨j + 1, by omega, by go_num, Lib.hid (HK.out.trans (Kept.of_below hb2)), Lib.hid ?_⟩
          rw [List.take_add_one, HX.out, Option.toList_some, List.all_append, HJ.out]
          simp [HTS.out]
    · obtain rfl : j = p.tests.length := by omega
      go_wp2_with fail
      go_ret
      have h1 := HJ.out
      rw [List.take_length] at h1
      exact ⟨retb (by rw [← HR.out]; unfold mPart; exact h1.symm), HK.out⟩
def Fit (ns : List PNode) : Prop := ∀ n ∈ ns, -9223372036854775808 ≤ n.parent ∧ n.parent ≤ 9223372036854775807
structure MtCtx (ns : List PNode) : Prop where
  short : Short ns
  few : ns.length ≤ 1048576
  fit : Fit ns
def AtEnds (w : World) (r : Bool) (e : Ending) (w' : World) : Prop := e = .returned (.bool r) ∧ Kept (fun _ => False) w w'
theorem parentOf_at {ns : List PNode} {k : Nat} {x : PNode} (h : ns[k]? = some x) : parentOf ns k = x.parent := by unfold parentOf; rw [h]
def upsAny (ns : List PNode) (q : Int → Bool) (k : Nat) (u : Int) : Bool := if 0 ≤ u ∧ u < (k : Int) then q u || (ups ns u.toNat).any (fun x => q (x : Int)) else false
theorem ups_any (ns : List PNode) (q : Int → Bool) (k : Nat) : (ups ns k).any (fun x => q (x : Int)) = upsAny ns q k (parentOf ns k) := by
  rw [ups_eq]
  unfold upsAny
  split
  · rename_i h
    rw [List.any_cons, Int.toNat_of_nonneg h.1]
  · rfl
theorem upsAny_next {ns : List PNode} {q : Int → Bool} {k u : Nat} (hu : u < k) (h : parentOf ns u < (u : Int)) : (ups ns u).any (fun x => q (x : Int)) = upsAny ns q k (parentOf ns u) := by
  rw [ups_any]
  unfold upsAny
  by_cases h0 : 0 ≤ parentOf ns u
  · rw [if_pos ⟨h0, h⟩, if_pos ⟨h0, by omega⟩]
  · rw [if_neg (by omega), if_neg (by omega)]
theorem ups_none {ns : List PNode} {u : Nat} (h : (u : Int) ≤ parentOf ns u) : ups ns u = [] := by
  rw [ups_eq, if_neg (by omega)]
theorem rev_take {s : PSel} {n : Nat} {p : PPart} (hn : 1 ≤ n) (hp : s[n - 1]? = some p) : (s.take n).reverse = p :: (s.take (n - 1)).reverse := by
  obtain ⟨j, rfl⟩ : ∃ j, n = j + 1 := ⟨n - 1, by omega⟩
  rw [Nat.add_sub_cancel] at hp ⊢
  rw [List.take_add_one, hp, Option.toList_some, List.reverse_append]
  rfl
theorem ahead_fits (ns : List PNode) (k : Int) (h : ns.length ≤ 1048576) : -1 ≤ pAhead ns k ∧ pAhead ns k ≤ 1048576 := by
  have hl : ∀ (p : Int) (j : Nat), j ≤ ns.length → -1 ≤ lastWith ns p j ∧ lastWith ns p j ≤ 1048576 := by
    intro p j
    induction j with
    | zero => intro _; exact ⟨by simp [lastWith], by simp [lastWith]⟩
    | succ j ih =>
      intro hj
      unfold lastWith
      split
      · omega
      · exact ih (by omega)
  unfold pAhead
  split
  · omega
  · rename_i h0
    split
    · exact hl _ _ (by omega)
    · omega
set_option maxRecDepth 100000 in
set_option maxHeartbeats 3200000 in
theorem at_any (ns : List PNode) (hns : MtCtx ns) (s : PSel) (m : Int) : ∀ (n : Nat), 1 ≤ n → n ≤ s.length → ∀ (w : World) (v sv : Value) (k : Int), NodesAt w v ns → PartsAt w sv s → (-9223372036854775808 ≤ k ∧ k ≤ 9223372036854775807) → w.cell? ⟨0, 0, none⟩ = some (.int .i64 m) →
    Calls Tryz.prog 112 #[v, .int .i64 k, sv, .int .i64 (n : Int)] w (AtEnds w (mAt ns (s.take n).reverse k)) := by
  intro n
  induction n with
  | zero => intro h; omega
  | succ n0 ih =>
  intro hn1 hnl w v sv k hv hp hk hm
  obtain ⟨n, hnn⟩ : ∃ n, n = n0 + 1 := ⟨_, rfl⟩
  rw [← hnn] at hn1 hnl ⊢
  have IH := Lib.hid ih
  have HNN := Lib.hid hnn
  clear ih hnn
  have hpx : ∃ p, s[n - 1]? = some p := ⟨_, List.getElem?_eq_getElem (by omega)⟩
  obtain ⟨p, hpp⟩ := hpx
  obtain ⟨q, HQ⟩ : ∃ q, Hid (mAt ns (s.take (n - 1)).reverse = q) := ⟨_, rfl⟩
  have hR0 : mAt ns (s.take n).reverse k = (inR ns k && mPart ns k.toNat p && ((s.take (n - 1)).reverse.isEmpty || mJoin ns p.join q k.toNat)) := by
    rw [rev_take hn1 hpp, mAt, HQ.out]
  obtain ⟨r, HR⟩ : ∃ r, Hid (mAt ns (s.take n).reverse k = r) := ⟨_, rfl⟩
  rw [HR.out]
  have hR := Lib.hid (hR0.symm.trans HR.out)
  clear hR0
  obtain ⟨na, ncap, rfl, hnc1, hnc2⟩ := hv.form
  obtain ⟨pa, pcap, rfl, hpc1, hpc2⟩ := NestAt.form hp
  unfold maxLen at hnc2 hpc2
  obtain ⟨pb, po, tv, rfl, hpc, hpt⟩ := NestAt.at hp hpp
  have HPA : Hid (PartAt w pb (po + (n - 1) * 2) p) := Lib.hid ⟨tv, hpc 0 _ rfl, hpc 1 _ rfl, hpt⟩
  have HNI : Hid ((n : Int) - 1 = ((n - 1 : Nat) : Int)) := Lib.hid (by omega)
  have pj : w.cell? ⟨pb, po + (n - 1) * 2, none⟩ = some (.int .i64 p.join) := hpc 0 _ rfl
  have HV := Lib.hid hv
  have HP := Lib.hid hp
  have HM := Lib.hid hm
  have HPP := Lib.hid hpp
  have hfew := hns.few
  obtain ⟨hk1, hk2⟩ := hk
  clear hv hp hm hpp hpc hpt
  by_cases h0 : k < 0
  · have hr : Hid (false = r) := Lib.hid (by
      rw [← hR.out]
      have : inR ns k = false := by simp [inR]; omega
      simp [this])
    go_enter Tryz.func112, Tryz.ntmps112
    go_wp2_with fail
    go_ret
    exact ⟨retb hr.out, Kept.refl _ _⟩
  · by_cases h1 : (ns.length : Int) ≤ k
    · have hr : Hid (false = r) := Lib.hid (by
        rw [← hR.out]
        have : inR ns k = false := by simp [inR]; omega
        simp [this])
      go_enter Tryz.func112, Tryz.ntmps112
      go_wp2_with fail
      go_ret
      exact ⟨retb hr.out, Kept.refl _ _⟩
    · obtain ⟨kn, rfl⟩ : ∃ j : Nat, k = j := ⟨k.toNat, by omega⟩
      have hkl : kn < ns.length := by omega
      have hin : inR ns (kn : Int) = true := by simp [inR]; omega
      have hR2 : Hid ((mPart ns kn p && ((s.take (n - 1)).reverse.isEmpty || mJoin ns p.join q kn)) = r) := Lib.hid (by rw [← hR.out, hin]; simp)
      have HPT := Lib.hid (part_any w _ ns kn HV.out hkl hns.short hns.few pb _ p HPA.out m HM.out)
      clear hin
      cases hpart : mPart ns kn p with
      | false =>
        rw [hpart] at HPT hR2
        have hr : Hid (false = r) := Lib.hid (by rw [← hR2.out]; rfl)
        clear hpart
        go_enter Tryz.func112, Tryz.ntmps112
        go_wp2_with (go_at_call 130; refine HPT.out.mono ?_; rintro e w2 ⟨rfl, hk2⟩)
        go_ret
        exact ⟨retb hr.out, hk2⟩
      | true =>
        rw [hpart] at HPT hR2
        clear hpart
        have hx := List.getElem?_eq_getElem hkl
        generalize hgx : ns[kn] = x at hx
        clear hgx
        have HX := Lib.hid hx
        have hpf := hns.fit x (List.mem_of_getElem? hx)
        have hpo : Hid (parentOf ns kn = x.parent) := Lib.hid (parentOf_at hx)
        clear hx
        by_cases h1n : n = 1
        · have hr : Hid (true = r) := Lib.hid (by rw [← hR2.out, h1n]; rfl)
          have g : ((n : Int) == 1) = true := by simp [h1n]
          clear h1n
          go_enter Tryz.func112, Tryz.ntmps112
          go_wp2_with (go_at_call 130; refine HPT.out.mono ?_; rintro e w2 ⟨rfl, hk2⟩)
          go_ret
          exact ⟨retb hr.out, hk2⟩
        · have g : ((n : Int) == 1) = false := by simp; omega
          have hne : (s.take (n - 1)).reverse.isEmpty = false := by
            rw [List.isEmpty_eq_false_iff]
            intro h
            have h2 : (s.take (n - 1)).reverse.length = n - 1 := by rw [List.length_reverse, List.length_take]; omega
            rw [h] at h2
            simp at h2; omega
          have hR3 : Hid (mJoin ns p.join q kn = r) := Lib.hid (by rw [← hR2.out, hne]; simp)
          have IH2 : Hid (∀ (w : World) (k : Int), NodesAt w (.slice na ns.length ncap) ns → PartsAt w (.slice (some ⟨pb, po, none⟩) (List.length s) pcap) s → (-9223372036854775808 ≤ k ∧ k ≤ 9223372036854775807) → w.cell? ⟨0, 0, none⟩ = some (.int .i64 m) →
              Calls Tryz.prog 112 #[.slice na ns.length ncap, .int .i64 k, .slice (some ⟨pb, po, none⟩) (List.length s) pcap, .int .i64 ((n : Int) - 1)] w (AtEnds w (q k))) := Lib.hid (by
            intro w k h1 h2 h3 h4
            have := IH.out (by have := HNN.out; omega) (by have := HNN.out; omega) w _ _ k h1 h2 h3 h4
            rw [show n0 = n - 1 from by have := HNN.out; omega, HQ.out] at this
            rw [HNI.out]; exact this)
          clear hne h1n
          by_cases hj2 : p.join = 2
          · have e2 : (p.join == 2) = true := by simp [hj2]
            have hr : Hid (q x.parent = r) := Lib.hid (by rw [← hR3.out, ← hpo.out]; unfold mJoin; rw [if_pos hj2])
            clear hj2
            obtain ⟨nb, noff, av, rfl, g0, g1, g2, g3, g4, g5, hav⟩ := HV.out.at HX.out
            go_enter Tryz.func112, Tryz.ntmps112
            go_wp2_with fail
            refine HPT.out.mono ?_
            rintro e w2 ⟨rfl, hk2⟩
            have g1' := hk2.cell id g1
            have pj' := hk2.cell id pj
            have HV2 := Lib.hid (nodes_firm.kept HV.out hk2)
            have HP2 := Lib.hid (parts_firm.kept HP.out hk2)
            have HM2 := Lib.hid (hk2.cell id HM.out)
            clear g0 g1 g2 g3 g4 g5 hav pj
            go_wp2_with (go_at_call 112; refine (IH2.out w2 x.parent HV2.out HP2.out hpf HM2.out).mono ?_; rintro e w3 ⟨rfl, hk3⟩)
            go_ret
            exact ⟨retb hr.out, hk2.trans hk3⟩
          · have e2 : (p.join == 2) = false := by simp [hj2]
            by_cases hj3 : p.join = 3
            · have e3 : (p.join == 3) = true := by simp [hj3]
              have hr : Hid (q (pAhead ns (kn : Int)) = r) := Lib.hid (by rw [← hR3.out]; unfold mJoin; rw [if_neg hj2, if_pos hj3])
              have haf := ahead_fits ns (kn : Int) hns.few
              clear hj2 hj3
              go_enter Tryz.func112, Tryz.ntmps112
              go_wp2_with fail
              refine HPT.out.mono ?_
              rintro e w2 ⟨rfl, hk2⟩
              have pj' := hk2.cell id pj
              have HV2 := Lib.hid (nodes_firm.kept HV.out hk2)
              have HP2 := Lib.hid (parts_firm.kept HP.out hk2)
              have HM2 := Lib.hid (hk2.cell id HM.out)
              clear pj
              go_wp2_with fail
              refine (ahead_any w2 _ ns (kn : Int) HV2.out (by omega)).mono ?_
              rintro e w3 ⟨rfl, hq3⟩
              have hk3 : Kept (fun _ => False) w2 w3 := hq3.kept _
              have HV3 := Lib.hid (nodes_firm.kept HV2.out hk3)
              have HP3 := Lib.hid (parts_firm.kept HP2.out hk3)
              have HM3 := Lib.hid (hk3.cell id HM2.out)
              go_wp2_with (go_at_call 112; refine (IH2.out w3 _ HV3.out HP3.out (by omega) HM3.out).mono ?_; rintro e w4 ⟨rfl, hk4⟩)
              go_ret
              exact ⟨retb hr.out, (hk2.trans hk3).trans hk4⟩
            · have e3 : (p.join == 3) = false := by simp [hj3]
              by_cases hj1 : p.join = 1
              · have e1 : (p.join == 1) = true := by simp [hj1]
                have hr : Hid (upsAny ns q kn x.parent = r) := Lib.hid (by rw [← hR3.out, ← hpo.out, ← ups_any]; unfold mJoin; rw [if_neg hj2, if_neg hj3, if_pos hj1])
                clear hj1 hj2 hj3
                obtain ⟨nb, noff, av, rfl, g0, g1, g2, g3, g4, g5, hav⟩ := HV.out.at HX.out
                go_enter Tryz.func112, Tryz.ntmps112
                go_wp2_with fail
                refine HPT.out.mono ?_
                rintro e w2 ⟨rfl, hk2⟩
                have g1' := hk2.cell id g1
                have pj' := hk2.cell id pj
                have HV2 := Lib.hid (nodes_firm.kept HV.out hk2)
                have HP2 := Lib.hid (parts_firm.kept HP.out hk2)
                have HM2 := Lib.hid (hk2.cell id HM.out)
                have HK2 := Lib.hid hk2
                clear g0 g1 g2 g3 g4 g5 hav pj hk2
                go_wp2_with fail
                go_loopw [9] (fun u wr => ∃ z : Int, u = .int .i64 z ∧ -9223372036854775808 ≤ z ∧ z ≤ 9223372036854775807 ∧ Hid (Kept (fun _ => False) w2 wr) ∧ Hid (upsAny ns q kn z = r)) (fun u _ => (intOf u + 1).toNat)
                case atStart => exact ⟨x.parent, rfl, hpf.1, hpf.2, Lib.hid (Kept.refl _ _), hr⟩
                case round =>
                  obtain ⟨z, rfl, hz1, hz2, HK, HU⟩ := hrel
                  by_cases hz : 0 ≤ z ∧ z < (kn : Int)
                  · obtain ⟨u, rfl⟩ : ∃ u : Nat, z = u := ⟨z.toNat, by omega⟩
                    have hul : u < ns.length := by omega
                    have huk : u < kn := by omega
                    have d1 : (0 : Int) ≤ (u : Int) := by omega
                    have d2 : (u : Int) < (kn : Int) := by omega
                    have hU : Hid ((q (u : Int) || (ups ns u).any (fun x => q (x : Int))) = r) := Lib.hid (by
                      rw [← HU.out]; unfold upsAny; rw [if_pos hz]; rfl)
                    have hy := List.getElem?_eq_getElem hul
                    generalize hgy : ns[u] = y at hy
                    clear hgy
                    have hyf := hns.fit y (List.mem_of_getElem? hy)
                    have hyo : Hid (parentOf ns u = y.parent) := Lib.hid (parentOf_at hy)
                    have hvr := nodes_firm.kept HV2.out HK.out
                    obtain ⟨nb2, noff2, av2, hbb, _, y1, _⟩ := hvr.at hy
                    cases hbb
                    have HVR := Lib.hid hvr
                    have HPR := Lib.hid (parts_firm.kept HP2.out HK.out)
                    have HMR := Lib.hid (HK.out.cell id HM2.out)
                    clear hy hz hvr
                    have HCALL := Lib.hid (IH2.out wr (u : Int) HVR.out HPR.out (by omega) HMR.out)
                    cases hq : q (u : Int) with
                    | true =>
                      rw [hq] at HCALL hU
                      have hrr : Hid (true = r) := Lib.hid (by rw [← hU.out]; rfl)
                      clear hq y1
                      go_wp2_with (go_at_call 112; refine HCALL.out.mono ?_; rintro e w3 ⟨rfl, hk3⟩)
                      go_ret
                      exact ⟨retb hrr.out, (HK2.out.trans HK.out).trans hk3⟩
                    | false =>
                      rw [hq] at HCALL hU
                      clear hq
                      go_wp2_with fail
                      refine HCALL.out.mono ?_
                      rintro e w3 ⟨rfl, hk3⟩
                      have y1' := hk3.cell id y1
                      have HK3 := Lib.hid (HK.out.trans hk3)
                      clear y1 hk3
                      by_cases hyu : (u : Int) ≤ y.parent
                      · have hrr : Hid (false = r) := Lib.hid (by rw [← hU.out, ups_none (by rw [hyo.out]; exact hyu)]; rfl)
                        go_wp2_with fail
                        go_ret
                        exact ⟨retb hrr.out, HK2.out.trans HK3.out⟩
                      · have hrr : Hid (upsAny ns q kn y.parent = r) := Lib.hid (by
                          rw [← hU.out, Bool.false_or, upsAny_next huk (by rw [hyo.out]; omega), hyo.out])
                        go_wp2_with fail
                        go_roundw
                        case measure => simp [intOf]; omega
                        case rel => exact ⟨y.parent, rfl, hyf.1, hyf.2, HK3, hrr⟩
                  · have hrr : Hid (false = r) := Lib.hid (by rw [← HU.out]; unfold upsAny; rw [if_neg hz])
                    by_cases hz0 : 0 ≤ z
                    · have hzk : ¬ z < (kn : Int) := fun h => hz ⟨hz0, h⟩
                      clear hz
                      go_wp2_with fail
                      go_ret
                      exact ⟨retb hrr.out, HK2.out.trans HK.out⟩
                    · clear hz
                      go_wp2_with fail
                      go_ret
                      exact ⟨retb hrr.out, HK2.out.trans HK.out⟩
              · have e1 : (p.join == 1) = false := by simp [hj1]
                have hr : Hid (false = r) := Lib.hid (by rw [← hR3.out]; unfold mJoin; rw [if_neg hj2, if_neg hj3, if_neg hj1])
                clear hj1 hj2 hj3
                go_enter Tryz.func112, Tryz.ntmps112
                go_wp2_with fail
                refine HPT.out.mono ?_
                rintro e w2 ⟨rfl, hk2⟩
                have pj' := hk2.cell id pj
                clear pj
                go_wp2_with fail
                go_ret
                exact ⟨retb hr.out, hk2⟩
end Go.Proofs.YtplbdlgmjehckadGreatDoor

