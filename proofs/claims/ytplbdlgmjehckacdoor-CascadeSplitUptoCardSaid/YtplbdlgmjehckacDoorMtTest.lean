/-
  match.test.
-/
import Derived.Test.YtplbdlgmjehckacDoorMtSpec
import Derived.Test.YtplbdlgmjehckacDoorReads
import Derived.Test.YtplbdlgmjehckacDoorGetAhead
import Derived.Test.YtplbdlgmjehckacDoorSpl
import Derived.Test.YtplbdlgmjehckacDoorRowsNews
import Derived.Deep.RegionHeld3
import Derived.Deep.LoopGhost
namespace Go.Proofs.YtplbdlgmjehckacDoor
open Go.RowKit
set_option linter.unusedVariables false
set_option linter.unusedSimpArgs false

/-- a test's three cells -/
def TestAt (w : World) (b o : Nat) (t : PTest) : Prop := w.cell? ⟨b, o, none⟩ = some (.int .i64 t.kind) ∧ w.cell? ⟨b, o + 1, none⟩ = some (.string (str t.name)) ∧ w.cell? ⟨b, o + 2, none⟩ = some (.string (str t.val))
theorem TestAt.below {w w' : World} {b o : Nat} {t : PTest} (h : TestAt w b o t) (hk : Kept (fun _ => False) w w') : TestAt w' b o t := ⟨hk.cell id h.1, hk.cell id h.2.1, hk.cell id h.2.2⟩
/-- attributes of these elements are short -/
def Short (ns : List PNode) : Prop := ∀ n ∈ ns, ∀ a ∈ n.attrs, a.val.length ≤ 1048576
theorem get_short {ns : List PNode} (h : Short ns) {n : PNode} (hn : n ∈ ns) (nm : B) : (pGet n.attrs nm).1.length ≤ 1048576 := by
  unfold pGet
  cases hf : n.attrs.find? (fun a => a.name == nm) with
  | none => simp
  | some a => exact h n hn a (List.mem_of_find?_eq_some hf)

theorem contains_bytes (l : List B) (x : B) : Lib.containsS ((l.map str).take l.length) (str x) = l.contains x := by
  rw [List.take_of_length_le (by simp), Bool.eq_iff_iff, Lib.containsS_iff, List.contains_iff_mem, List.mem_map]
  constructor
  · rintro ⟨y, hy, h⟩
    rw [← str_inj h]; exact hy
  · intro h; exact ⟨x, h, rfl⟩
theorem contains_any (w : World) (v : Value) (l : List B) (x : B) (h : StrsAt w v l) :
    Calls Tryd.prog 33 #[v, .string (str x)] w fun e w' => e = .returned (.bool (l.contains x)) ∧ w' = w := by
  obtain ⟨a, cap, rfl, h1, h2⟩ := StrsAt.form h
  unfold maxLen at h2
  by_cases h0 : l = []
  · subst h0
    exact Tryd.slices_Contains_string_empty a cap (str x) w
  · obtain ⟨b, off, rfl⟩ := RowsAt.addr h (by simpa using h0)
    have := Tryd.slices_Contains_string b off l.length cap (l.map str) (str x) w (by simp) (by omega) (fun j hj => by
      simp only [List.length_map] at hj
      obtain ⟨b', o', hbb, hc⟩ := StrsAt.at h (List.getElem?_eq_getElem hj)
      cases hbb
      rw [hc]
      simp [List.getD, List.getElem?_eq_getElem hj])
    rw [contains_bytes] at this
    exact this
/-- a row of texts in a block of its own -/
theorem strs_block {w : World} {bk : Nat} {l : List B} (hl : l.length ≤ maxLen) (hh : w.heap[bk]? = some (.cells (l.map fun x => Value.string (str x)).toArray 9 (0, 0))) : StrsAt w (.slice (some ⟨bk, 0, none⟩) l.length l.length) l :=
  ⟨_, _, by rw [List.length_map], by simp, hl, fun _ => ⟨_, _, rfl, fun i r hr j c hc => by
    rw [List.getElem?_map, Option.map_eq_some_iff] at hr
    obtain ⟨x, hx, rfl⟩ := hr
    cases j with
    | zero =>
      simp at hc; subst hc
      exact cellIn hh _ (by simp [hx])
    | succ j => simp at hc⟩⟩

theorem split_reads (l : B) (m : Int) (w : World) (hl : l.length ≤ 1048576) (hm : w.cell? ⟨0, 0, none⟩ = some (.int .i64 m)) :
    Calls Tryd.prog 52 #[.string (str l), .string (str [32])] w fun e w' => e = .returned (.slice (some ⟨w.heap.size, 0, none⟩) (splitB l).length (splitB l).length) ∧ Kept (fun _ => False) w w' ∧
      StrsAt w' (.slice (some ⟨w.heap.size, 0, none⟩) (splitB l).length (splitB l).length) (splitB l) :=
  (split_any l m w (by omega) hm).mono fun e w' ⟨he, hw⟩ => by
    subst hw
    exact ⟨he, (Kept.refl _ w).alloc _, strs_block (by have := splitB_len l; unfold maxLen; omega) (newIn w _)⟩

theorem contains_reads (w : World) (v : Value) (l : List B) (x : B) (h : StrsAt w v l) :
    Calls Tryd.prog 33 #[v, .string (str x)] w fun e w' => e = .returned (.bool (l.contains x)) ∧ Kept (fun _ => False) w w' :=
  (contains_any w v l x h).mono fun e w' ⟨h1, h2⟩ => ⟨h1, by subst h2; exact Kept.refl _ _⟩

theorem get_reads (w : World) (v : Value) (n : PNode) (nm : B) (hv : AttrsAt w v n.attrs) :
    Calls Tryd.prog 22 #[.agg #[.string (str n.name), .int .i64 n.parent, v, .int .i64 n.nameEnd, .int .i64 n.inF, .int .i64 n.inT], .string (str nm)] w fun e w' =>
      e = .returned (.tuple #[.string (str (pGet n.attrs nm).1), .bool (pGet n.attrs nm).2]) ∧ Kept (fun _ => False) w w' :=
  (get_any w v n nm hv).mono fun e w' ⟨h1, h2⟩ => ⟨h1, Kept.of_below h2⟩

def nodeVal (n : PNode) (av : Value) : Value := .agg #[.string (str n.name), .int .i64 n.parent, av, .int .i64 n.nameEnd, .int .i64 n.inF, .int .i64 n.inT]
/-- what an element's copy is -/
structure CopyAt (w : World) (c : Nat) (n : PNode) (av : Value) : Prop where
  heap : w.heap[c]? = some (.cells #[.string (str n.name), .int .i64 n.parent, av, .int .i64 n.nameEnd, .int .i64 n.inF, .int .i64 n.inT] 44 (0, 0))
  attrs : AttrsAt w av n.attrs

set_option maxRecDepth 100000 in
set_option maxHeartbeats 1600000 in
theorem test_any (w : World) (v : Value) (ns : List PNode) (k : Nat) (hv : NodesAt w v ns) (hk : k < ns.length) (hs : Short ns) (hn0 : ns.length ≤ 1048576) (b o : Nat) (t : PTest) (ht : TestAt w b o t) (m : Int) (hm : w.cell? ⟨0, 0, none⟩ = some (.int .i64 m)) :
    Calls Tryd.prog 73 #[v, .int .i64 (k : Int), .pointer (some ⟨b, o, none⟩)] w fun e w' => e = .returned (.bool (mTest ns k t)) ∧ Below w.heap.size w w' := by
  obtain ⟨r, HR⟩ : ∃ r, Hid (mTest ns k t = r) := ⟨_, rfl⟩
  rw [HR.out]
  obtain ⟨a, cap, rfl, hle, hcap⟩ := hv.form
  unfold maxLen at hcap
  have hx := List.getElem?_eq_getElem hk
  generalize hgx : ns[k] = n at hx
  clear hgx
  obtain ⟨nb, noff, av, rfl, g0, g1, g2, g3, g4, g5, hav⟩ := hv.at hx
  obtain ⟨aa, acap, rfl, hac1, hac2⟩ := hav.form
  unfold maxLen at hac2
  have HV := Lib.hid hv
  have HX := Lib.hid hx
  have HM := Lib.hid hm
  have hR : Hid (mTestN ns k n t = r) := Lib.hid (by rw [← HR.out]; unfold mTest; rw [hx])
  have HGS := Lib.hid (get_short hs (List.mem_of_getElem? hx))
  obtain ⟨t0, t1, t2⟩ := ht
  clear hx hv hm hs
  go_enter Tryd.func73, Tryd.ntmps73
  go_upto_region 2 with fail
  obtain ⟨wa, HWA⟩ : ∃ x', Hid (w.alloc (.cells #[.string (str n.name), .int .i64 n.parent, .slice aa n.attrs.length acap, .int .i64 n.nameEnd, .int .i64 n.inF, .int .i64 n.inT] 44 (0, 0)) = x') := ⟨_, rfl⟩
  have ka : Kept (fun _ => False) w wa := by rw [← HWA.out]; exact (Kept.refl _ w).alloc _
  have hh : wa.heap[w.heap.size]? = some (.cells #[.string (str n.name), .int .i64 n.parent, .slice aa n.attrs.length acap, .int .i64 n.nameEnd, .int .i64 n.inF, .int .i64 n.inT] 44 (0, 0)) := by rw [← HWA.out]; exact newIn w _
  have n0 : wa.cell? ⟨w.heap.size, 0, none⟩ = some (.string (str n.name)) := cellIn hh 0 rfl
  have n1 : wa.cell? ⟨w.heap.size, 1, none⟩ = some (.int .i64 n.parent) := cellIn hh 1 rfl
  have n2 : wa.cell? ⟨w.heap.size, 2, none⟩ = some (.slice aa n.attrs.length acap) := cellIn hh 2 rfl
  have n3 : wa.cell? ⟨w.heap.size, 3, none⟩ = some (.int .i64 n.nameEnd) := cellIn hh 3 rfl
  have n4 : wa.cell? ⟨w.heap.size, 4, none⟩ = some (.int .i64 n.inF) := cellIn hh 4 rfl
  have n5 : wa.cell? ⟨w.heap.size, 5, none⟩ = some (.int .i64 n.inT) := cellIn hh 5 rfl
  have q0 : wa.cell? ⟨b, o, none⟩ = some (.int .i64 t.kind) := ka.cell id t0
  have q1 : wa.cell? ⟨b, o + 1, none⟩ = some (.string (str t.name)) := ka.cell id t1
  have q2 : wa.cell? ⟨b, o + 2, none⟩ = some (.string (str t.val)) := ka.cell id t2
  have HAV := Lib.hid (RowsAt.below hav ka.below)
  have HVA := Lib.hid (nodes_firm.kept HV.out ka)
  have hm1 := ka.cell id HM.out
  have HM1 := Lib.hid hm1
  have KA := Lib.hid ka
  clear hm1 ka hh t0 t1 t2 g0 g1 g2 g3 g4 g5 hav
  rw [HWA.out]
  by_cases h1 : t.kind = 1
  · have e1 : (t.kind == 1) = true := by simp [h1]
    have HRR : Hid ((n.name == t.name) = r) := Lib.hid (by rw [← hR.out]; unfold mTestN; rw [if_pos h1])
    clear h1
    go_wp2_with fail
    go_quiet (fail)
    go_wp2_with fail
    go_ret
    exact ⟨retb HRR.out, (KA.out.drewN _).below⟩
  · have e1 : (t.kind == 1) = false := by simp [h1]
    by_cases h2 : t.kind = 2
    · have e2 : (t.kind == 2) = true := by simp [h2]
      have HRR : Hid ((!t.name.isEmpty && (splitB (pGet n.attrs className).1).contains t.name) = r) := Lib.hid (by rw [← hR.out]; unfold mTestN; rw [if_neg h1, if_pos h2])
      have HGC := Lib.hid (HGS.out className)
      clear h1 h2
      go_wp2_with fail
      refine (get_any wa _ n className HAV.out).mono ?_
      rintro e w2 ⟨rfl, hb2⟩
      generalize pGet n.attrs className = g at *
      obtain ⟨gv, gb⟩ := g
      simp only at HRR HGC
      have q1' := (Kept.of_below (S := fun _ => False) hb2).cell id q1
      have hm2 := (Kept.of_below (S := fun _ => False) hb2).cell id HM1.out
      have K2 := Lib.hid (KA.out.trans (Kept.of_below hb2))
      clear hb2 q0 q1 q2 n0 n1 n2 n3 n4 n5
      cases hnm : t.name.isEmpty with
      | true =>
        rw [hnm] at HRR
        have e3 : (t.name == []) = true := by simpa using hnm
        go_wp2_with fail
        go_quiet (fail)
        go_wp2_with fail
        go_ret
        exact ⟨retb HRR.out, (K2.out.drewN _).below⟩
      | false =>
        rw [hnm] at HRR
        have e3 : (t.name == []) = false := by simpa using hnm
        go_upto_region 7 with fail
        go_region_held3 (fun w' => w'.cell? ⟨b, o + 1, none⟩ = some (.string (str t.name)) ∧ w'.cell? ⟨0, 0, none⟩ = some (.int .i64 m)) (first | go_keep | (go_split_ands; exact ⟨hk6.cell id (by assumption), hk6.cell id (by assumption)⟩) | (go_split_ands; exact ⟨hk5.cell id (by assumption), hk5.cell id (by assumption)⟩))
          ((first
            | (go_at_call 52; refine (split_reads gv m _ (by have := HGC.out; omega) (by assumption)).mono ?_; rintro e w5 ⟨rfl, hk5, hst5⟩)
            | (go_at_call 33; refine (contains_reads _ _ _ t.name (by exact hst5)).mono ?_; rintro e w6 ⟨rfl, hk6⟩)))
        go_wp2_with fail
        go_ret
        exact ⟨retb (by rw [← HRR.out]; simp), ((K2.out.drew.trans hk5).trans hk6).below⟩
    · have e2 : (t.kind == 2) = false := by simp [h2]
      by_cases h3 : t.kind = 3
      · have e3 : (t.kind == 3) = true := by simp [h3]
        have HRR : Hid (((pGet n.attrs idName).2 && (pGet n.attrs idName).1 == t.name) = r) := Lib.hid (by rw [← hR.out]; unfold mTestN; rw [if_neg h1, if_neg h2, if_pos h3])
        clear h1 h2 h3
        go_wp2_with fail
        refine (get_any wa (.slice aa n.attrs.length acap) n idName HAV.out).mono ?_
        rintro e w2 ⟨rfl, hb2⟩
        generalize pGet n.attrs idName = g at *
        obtain ⟨gv, gb⟩ := g
        have q1' := (Kept.of_below (S := fun _ => False) hb2).cell id q1
        have K2 := Lib.hid (KA.out.trans (Kept.of_below hb2))
        clear hb2 q0 q1 q2 n0 n1 n2 n3 n4 n5
        cases gb with
        | true =>
          go_wp2_with fail
          go_ret
          exact ⟨retb HRR.out, K2.out.below⟩
        | false =>
          go_wp2_with fail
          go_ret
          exact ⟨retb HRR.out, K2.out.below⟩
      · have e3 : (t.kind == 3) = false := by simp [h3]
        by_cases h4 : t.kind = 4
        · have e4 : (t.kind == 4) = true := by simp [h4]
          have HRR : Hid ((pGet n.attrs t.name).2 = r) := Lib.hid (by rw [← hR.out]; unfold mTestN; rw [if_neg h1, if_neg h2, if_neg h3, if_pos h4])
          clear h1 h2 h3 h4
          go_upto_region 12 with fail
          go_region_held3 (fun w' => w'.cell? ⟨w.heap.size, 0, none⟩ = some (.string (str n.name)) ∧ w'.cell? ⟨w.heap.size, 1, none⟩ = some (.int .i64 n.parent) ∧ w'.cell? ⟨w.heap.size, 2, none⟩ = some (.slice aa n.attrs.length acap) ∧ w'.cell? ⟨w.heap.size, 3, none⟩ = some (.int .i64 n.nameEnd) ∧ w'.cell? ⟨w.heap.size, 4, none⟩ = some (.int .i64 n.inF) ∧ w'.cell? ⟨w.heap.size, 5, none⟩ = some (.int .i64 n.inT) ∧ w'.cell? ⟨b, o + 1, none⟩ = some (.string (str t.name)) ∧ w'.cell? ⟨b, o + 2, none⟩ = some (.string (str t.val))) (first | go_keep | (go_split_ands; exact ⟨hk5.cell id (by assumption), hk5.cell id (by assumption), hk5.cell id (by assumption), hk5.cell id (by assumption), hk5.cell id (by assumption), hk5.cell id (by assumption), hk5.cell id (by assumption), hk5.cell id (by assumption)⟩))
            ((go_at_call 22; refine (get_reads _ _ n t.name (by exact HAV.out)).mono ?_; rintro e w5 ⟨rfl, hk5⟩))
          go_wp2_with fail
          go_ret
          exact ⟨retb HRR.out, (KA.out.drew.trans hk5).below⟩
        · have e4 : (t.kind == 4) = false := by simp [h4]
          by_cases h5 : t.kind = 5
          · have e5 : (t.kind == 5) = true := by simp [h5]
            have HRR : Hid (((pGet n.attrs t.name).2 && (pGet n.attrs t.name).1 == t.val) = r) := Lib.hid (by rw [← hR.out]; unfold mTestN; rw [if_neg h1, if_neg h2, if_neg h3, if_neg h4, if_pos h5])
            clear h1 h2 h3 h4 h5
            go_upto_region 15 with fail
            go_region_held3 (fun w' => w'.cell? ⟨w.heap.size, 0, none⟩ = some (.string (str n.name)) ∧ w'.cell? ⟨w.heap.size, 1, none⟩ = some (.int .i64 n.parent) ∧ w'.cell? ⟨w.heap.size, 2, none⟩ = some (.slice aa n.attrs.length acap) ∧ w'.cell? ⟨w.heap.size, 3, none⟩ = some (.int .i64 n.nameEnd) ∧ w'.cell? ⟨w.heap.size, 4, none⟩ = some (.int .i64 n.inF) ∧ w'.cell? ⟨w.heap.size, 5, none⟩ = some (.int .i64 n.inT) ∧ w'.cell? ⟨b, o + 1, none⟩ = some (.string (str t.name)) ∧ w'.cell? ⟨b, o + 2, none⟩ = some (.string (str t.val))) (first | go_keep | (go_split_ands; exact ⟨hk5.cell id (by assumption), hk5.cell id (by assumption), hk5.cell id (by assumption), hk5.cell id (by assumption), hk5.cell id (by assumption), hk5.cell id (by assumption), hk5.cell id (by assumption), hk5.cell id (by assumption)⟩))
              ((go_at_call 22; refine (get_reads _ _ n t.name (by exact HAV.out)).mono ?_; rintro e w5 ⟨rfl, hk5⟩))
            have v5 : w5.cell? ⟨b, o + 2, none⟩ = some (.string (str t.val)) := hk5.cell id q2
            generalize pGet n.attrs t.name = g at *
            obtain ⟨gv, gb⟩ := g
            cases gb with
            | true =>
              go_wp2_with fail
              go_ret
              exact ⟨retb HRR.out, (KA.out.drew.trans hk5).below⟩
            | false =>
              go_wp2_with fail
              go_ret
              exact ⟨retb HRR.out, (KA.out.drew.trans hk5).below⟩
          · have e5 : (t.kind == 5) = false := by simp [h5]
            by_cases h6 : t.kind = 6
            · have e6 : (t.kind == 6) = true := by simp [h6]
              have HRR : Hid (decide (pAhead ns (k : Int) < 0) = r) := Lib.hid (by rw [← hR.out]; unfold mTestN; rw [if_neg h1, if_neg h2, if_neg h3, if_neg h4, if_neg h5, if_pos h6])
              clear h1 h2 h3 h4 h5 h6
              have hkk : -9223372036854775808 ≤ (k : Int) ∧ (k : Int) ≤ 9223372036854775807 := by omega
              have HKK := Lib.hid hkk
              go_wp2_with (go_at_call 65; refine (ahead_any _ _ ns (k : Int) HVA.out HKK.out).mono ?_; rintro e w5 ⟨rfl, hq5⟩)
              go_ret
              exact ⟨retb (by rw [← HRR.out]), (KA.out.trans (hq5.kept _)).below⟩
            · have e6 : (t.kind == 6) = false := by simp [h6]
              have HRR : Hid (false = r) := Lib.hid (by rw [← hR.out]; unfold mTestN; rw [if_neg h1, if_neg h2, if_neg h3, if_neg h4, if_neg h5, if_neg h6])
              clear h1 h2 h3 h4 h5 h6
              go_wp2_with fail
              go_ret
              exact ⟨retb HRR.out, KA.out.below⟩
end Go.Proofs.YtplbdlgmjehckacDoor
