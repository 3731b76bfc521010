/-
  Lemmas for the claims of this seat: the program's functions walked, and plain laws. In this order: RowsNews MtTest MtAt MtWeigh.
-/
import Derived.Test.YtplbdlgmjehckabGreatDoorPk3
import Derived.Deep.AppendLies
import Derived.Test.YtplbdlgmjehckabGreatDoorPk1
import Derived.Deep.RegionHeld3
import Derived.Deep.LoopGhost
namespace Go.Proofs.YtplbdlgmjehckabGreatDoor
open Go.RowKit
set_option linter.unusedVariables false
set_option linter.unusedSimpArgs false
theorem flatten_inv (size : Nat) : ∀ (rows : List (List Value)), (∀ r ∈ rows, r.length = size) → ∀ (j : Nat) (u : Value), rows.flatten[j]? = some u → ∃ i k r, rows[i]? = some r ∧ r[k]? = some u ∧ j = i * size + k
  | [], _, j, u, h => by simp at h
  | r0 :: rows, hl, j, u, h => by
    have h0 := hl r0 (by simp)
    simp only [List.flatten_cons] at h
    by_cases hj : j < r0.length
    · rw [List.getElem?_append_left hj] at h
      exact ⟨0, j, r0, rfl, h, by simp⟩
    · rw [List.getElem?_append_right (by omega)] at h
      obtain ⟨i, k, r, h1, h2, h3⟩ := flatten_inv size rows (fun r hr => hl r (by simp [hr])) _ u h
      exact ⟨i + 1, k, r, by simpa using h1, h2, by rw [Nat.succ_mul]; omega⟩
theorem add_at (b off j : Nat) : ((⟨b, off, none⟩ : Addr).add j) = ⟨b, off + j, none⟩ := by unfold Addr.add; split <;> simp_all
theorem RowsAt.news {w : World} {size b off n cap : Nat} {rows : List (List Value)} (h : RowsAt w size (.slice (some ⟨b, off, none⟩) n cap) rows) (hl : ∀ r ∈ rows, r.length = size) :
    ∀ j u, rows.flatten[j]? = some u → w.cell? ((⟨b, off, none⟩ : Addr).add j) = some u := fun j u hu => by
  obtain ⟨i, k, r, h1, h2, rfl⟩ := flatten_inv size rows hl j u hu
  obtain ⟨a', cap', hv, _, _, h4⟩ := h
  obtain ⟨b', off', hb, h5⟩ := h4 (by intro hn; subst hn; simp at h1)
  simp only [Value.slice.injEq] at hv
  obtain ⟨rfl, _, _⟩ := hv
  cases hb
  rw [add_at, ← Nat.add_assoc]
  exact h5 i r h1 k u h2
theorem flatten_len (size : Nat) : ∀ (rows : List (List Value)), (∀ r ∈ rows, r.length = size) → rows.flatten.length = rows.length * size
  | [], _ => by simp
  | r :: rows, h => by
    rw [List.flatten_cons, List.length_append, h r (by simp), flatten_len size rows (fun x hx => h x (by simp [hx])), List.length_cons, Nat.succ_mul]; omega
theorem RowsAt.addr {w : World} {size : Nat} {a : Option Addr} {n cap : Nat} {rows : List (List Value)} (h : RowsAt w size (.slice a n cap) rows) (hne : rows ≠ []) : ∃ b off, a = some ⟨b, off, none⟩ := by
  obtain ⟨a', cap', hv, _, _, h4⟩ := h
  obtain ⟨b', off', hb, _⟩ := h4 hne
  simp only [Value.slice.injEq] at hv
  obtain ⟨rfl, _, _⟩ := hv
  exact ⟨b', off', hb⟩
theorem RowsAt.len {w : World} {size : Nat} {a : Option Addr} {n cap : Nat} {rows : List (List Value)} (h : RowsAt w size (.slice a n cap) rows) : n = rows.length := by
  obtain ⟨a', cap', hv, _, _, h4⟩ := h
  simp only [Value.slice.injEq] at hv
  exact hv.2.1
end Go.Proofs.YtplbdlgmjehckabGreatDoor

namespace Go.Proofs.YtplbdlgmjehckabGreatDoor
open Go.RowKit
set_option linter.unusedVariables false
set_option linter.unusedSimpArgs false
def TestAt (w : World) (b o : Nat) (t : PTest) : Prop := w.cell? ⟨b, o, none⟩ = some (.int .i64 t.kind) ∧ w.cell? ⟨b, o + 1, none⟩ = some (.string (str t.name)) ∧ w.cell? ⟨b, o + 2, none⟩ = some (.string (str t.val))
theorem TestAt.below {w w' : World} {b o : Nat} {t : PTest} (h : TestAt w b o t) (hk : Kept (fun _ => False) w w') : TestAt w' b o t := ⟨hk.cell id h.1, hk.cell id h.2.1, hk.cell id h.2.2⟩
def Short (ns : List PNode) : Prop := ∀ n ∈ ns, ∀ a ∈ n.attrs, a.val.length ≤ 1048576
theorem get_short {ns : List PNode} (h : Short ns) {n : PNode} (hn : n ∈ ns) (nm : B) : (pGet n.attrs nm).1.length ≤ 1048576 := by
  unfold pGet
  cases hf : n.attrs.find? (fun a => a.name == nm) with
  | none => simp
  | some a => exact h n hn a (List.mem_of_find?_eq_some hf)
theorem contains_bytes (l : List B) (x : B) : Lib.containsS ((l.map str).take l.length) (str x) = l.contains x := by
  rw [List.take_of_length_le (by simp), Bool.eq_iff_iff, Lib.containsS_iff, List.contains_iff_mem, List.mem_map]
  constructor
  · rintro ⟨y, hy, h⟩
    rw [← str_inj h]; exact hy
  · intro h; exact ⟨x, h, rfl⟩
theorem contains_any (w : World) (v : Value) (l : List B) (x : B) (h : StrsAt w v l) :
    Calls Tryz.prog 99 #[v, .string (str x)] w fun e w' => e = .returned (.bool (l.contains x)) ∧ w' = w := by
  obtain ⟨a, cap, rfl, h1, h2⟩ := StrsAt.form h
  unfold maxLen at h2
  by_cases h0 : l = []
  · subst h0
    exact Tryz.slices_Contains_string_empty a cap (str x) w
  · obtain ⟨b, off, rfl⟩ := RowsAt.addr h (by simpa using h0)
    have := Tryz.slices_Contains_string b off l.length cap (l.map str) (str x) w (by simp) (by omega) (fun j hj => by
      simp only [List.length_map] at hj
      obtain ⟨b', o', hbb, hc⟩ := StrsAt.at h (List.getElem?_eq_getElem hj)
      cases hbb
      rw [hc]
      simp [List.getD, List.getElem?_eq_getElem hj])
    rw [contains_bytes] at this
    exact this
theorem strs_block {w : World} {bk : Nat} {l : List B} (hl : l.length ≤ maxLen) (hh : w.heap[bk]? = some (.cells (l.map fun x => Value.string (str x)).toArray 9 (0, 0))) : StrsAt w (.slice (some ⟨bk, 0, none⟩) l.length l.length) l :=
  ⟨_, _, by rw [List.length_map], by simp, hl, fun _ => ⟨_, _, rfl, fun i r hr j c hc => by
    rw [List.getElem?_map, Option.map_eq_some_iff] at hr
    obtain ⟨x, hx, rfl⟩ := hr
    cases j with
    | zero =>
      simp at hc; subst hc
      exact cellIn hh _ (by simp [hx])
    | succ j => simp at hc⟩⟩
theorem split_reads (l : B) (m : Int) (w : World) (hl : l.length ≤ 1048576) (hm : w.cell? ⟨0, 0, none⟩ = some (.int .i64 m)) :
    Calls Tryz.prog 122 #[.string (str l), .string (str [32])] w fun e w' => e = .returned (.slice (some ⟨w.heap.size, 0, none⟩) (splitB l).length (splitB l).length) ∧ Kept (fun _ => False) w w' ∧
      StrsAt w' (.slice (some ⟨w.heap.size, 0, none⟩) (splitB l).length (splitB l).length) (splitB l) :=
  (split_any l m w (by omega) hm).mono fun e w' ⟨he, hw⟩ => by
    subst hw
    exact ⟨he, (Kept.refl _ w).alloc _, strs_block (by have := splitB_len l; unfold maxLen; omega) (newIn w _)⟩
theorem contains_reads (w : World) (v : Value) (l : List B) (x : B) (h : StrsAt w v l) :
    Calls Tryz.prog 99 #[v, .string (str x)] w fun e w' => e = .returned (.bool (l.contains x)) ∧ Kept (fun _ => False) w w' :=
  (contains_any w v l x h).mono fun e w' ⟨h1, h2⟩ => ⟨h1, by subst h2; exact Kept.refl _ _⟩
theorem get_reads (w : World) (v : Value) (n : PNode) (nm : B) (hv : AttrsAt w v n.attrs) :
    Calls Tryz.prog 20 #[.agg #[.string (str n.name), .int .i64 n.parent, v, .int .i64 n.nameEnd, .int .i64 n.inF, .int .i64 n.inT], .string (str nm)] w fun e w' =>
      e = .returned (.tuple #[.string (str (pGet n.attrs nm).1), .bool (pGet n.attrs nm).2]) ∧ Kept (fun _ => False) w w' :=
  (get_any w v n nm hv).mono fun e w' ⟨h1, h2⟩ => ⟨h1, Kept.of_below h2⟩
def nodeVal (n : PNode) (av : Value) : Value := .agg #[.string (str n.name), .int .i64 n.parent, av, .int .i64 n.nameEnd, .int .i64 n.inF, .int .i64 n.inT]
structure CopyAt (w : World) (c : Nat) (n : PNode) (av : Value) : Prop where
  heap : w.heap[c]? = some (.cells #[.string (str n.name), .int .i64 n.parent, av, .int .i64 n.nameEnd, .int .i64 n.inF, .int .i64 n.inT] 66 (0, 0))
  attrs : AttrsAt w av n.attrs
set_option maxRecDepth 100000 in
set_option maxHeartbeats 1600000 in
theorem test_any (w : World) (v : Value) (ns : List PNode) (k : Nat) (hv : NodesAt w v ns) (hk : k < ns.length) (hs : Short ns) (hn0 : ns.length ≤ 1048576) (b o : Nat) (t : PTest) (ht : TestAt w b o t) (m : Int) (hm : w.cell? ⟨0, 0, none⟩ = some (.int .i64 m)) :
    Calls Tryz.prog 168 #[v, .int .i64 (k : Int), .pointer (some ⟨b, o, none⟩)] w fun e w' => e = .returned (.bool (mTest ns k t)) ∧ Below w.heap.size w w' := by
  obtain ⟨r, HR⟩ : ∃ r, Hid (mTest ns k t = r) := ⟨_, rfl⟩
  rw [HR.out]
  obtain ⟨a, cap, rfl, hle, hcap⟩ := hv.form
  unfold maxLen at hcap
  have hx := List.getElem?_eq_getElem hk
  generalize hgx : ns[k] = n at hx
  clear hgx
  obtain ⟨nb, noff, av, rfl, g0, g1, g2, g3, g4, g5, hav⟩ := hv.at hx
  obtain ⟨aa, acap, rfl, hac1, hac2⟩ := hav.form
  unfold maxLen at hac2
  have HV := Lib.hid hv
  have HX := Lib.hid hx
  have HM := Lib.hid hm
  have hR : Hid (mTestN ns k n t = r) := Lib.hid (by rw [← HR.out]; unfold mTest; rw [hx])
  have HGS := Lib.hid (get_short hs (List.mem_of_getElem? hx))
  obtain ⟨t0, t1, t2⟩ := ht
  clear hx hv hm hs
  go_enter Tryz.func168, Tryz.ntmps168
  go_upto_region 2 with fail
  obtain ⟨wa, HWA⟩ : ∃ x', Hid (w.alloc (.cells #[.string (str n.name), .int .i64 n.parent, .slice aa n.attrs.length acap, .int .i64 n.nameEnd, .int .i64 n.inF, .int .i64 n.inT] 66 (0, 0)) = x') := ⟨_, rfl⟩
  have ka : Kept (fun _ => False) w wa := by rw [← HWA.out]; exact (Kept.refl _ w).alloc _
  have hh : wa.heap[w.heap.size]? = some (.cells #[.string (str n.name), .int .i64 n.parent, .slice aa n.attrs.length acap, .int .i64 n.nameEnd, .int .i64 n.inF, .int .i64 n.inT] 66 (0, 0)) := by rw [← HWA.out]; exact newIn w _
  have n0 : wa.cell? ⟨w.heap.size, 0, none⟩ = some (.string (str n.name)) := cellIn hh 0 rfl
  have n1 : wa.cell? ⟨w.heap.size, 1, none⟩ = some (.int .i64 n.parent) := cellIn hh 1 rfl
  have n2 : wa.cell? ⟨w.heap.size, 2, none⟩ = some (.slice aa n.attrs.length acap) := cellIn hh 2 rfl
  have n3 : wa.cell? ⟨w.heap.size, 3, none⟩ = some (.int .i64 n.nameEnd) := cellIn hh 3 rfl
  have n4 : wa.cell? ⟨w.heap.size, 4, none⟩ = some (.int .i64 n.inF) := cellIn hh 4 rfl
  have n5 : wa.cell? ⟨w.heap.size, 5, none⟩ = some (.int .i64 n.inT) := cellIn hh 5 rfl
  have q0 : wa.cell? ⟨b, o, none⟩ = some (.int .i64 t.kind) := ka.cell id t0
  have q1 : wa.cell? ⟨b, o + 1, none⟩ = some (.string (str t.name)) := ka.cell id t1
  have q2 : wa.cell? ⟨b, o + 2, none⟩ = some (.string (str t.val)) := ka.cell id t2
  have HAV := Lib.hid (RowsAt.below hav ka.below)
  have HVA := Lib.hid (nodes_firm.kept HV.out ka)
  have hm1 := ka.cell id HM.out
  have HM1 := Lib.hid hm1
  have KA := Lib.hid ka
  clear hm1 ka hh t0 t1 t2 g0 g1 g2 g3 g4 g5 hav
  rw [HWA.out]
  by_cases h1 : t.kind = 1
  · have e1 : (t.kind == 1) = true := by simp [h1]
    have HRR : Hid ((n.name == t.name) = r) := Lib.hid (by rw [← hR.out]; unfold mTestN; rw [if_pos h1])
    clear h1
    go_wp2_with fail
    go_quiet (fail)
    go_wp2_with fail
    go_ret
    exact ⟨retb HRR.out, (KA.out.drewN _).below⟩
  · have e1 : (t.kind == 1) = false := by simp [h1]
    by_cases h2 : t.kind = 2
    · have e2 : (t.kind == 2) = true := by simp [h2]
      have HRR : Hid ((!t.name.isEmpty && (splitB (pGet n.attrs className).1).contains t.name) = r) := Lib.hid (by rw [← hR.out]; unfold mTestN; rw [if_neg h1, if_pos h2])
      have HGC := Lib.hid (HGS.out className)
      clear h1 h2
      go_wp2_with fail
      refine (get_any wa _ n className HAV.out).mono ?_
      rintro e w2 ⟨rfl, hb2⟩
      generalize pGet n.attrs className = g at *
      obtain ⟨gv, gb⟩ := g
      simp only at HRR HGC
      have q1' := (Kept.of_below (S := fun _ => False) hb2).cell id q1
      have hm2 := (Kept.of_below (S := fun _ => False) hb2).cell id HM1.out
      have K2 := Lib.hid (KA.out.trans (Kept.of_below hb2))
      clear hb2 q0 q1 q2 n0 n1 n2 n3 n4 n5
      cases hnm : t.name.isEmpty with
      | true =>
        rw [hnm] at HRR
        have e3 : (t.name == []) = true := by simpa using hnm
        go_wp2_with fail
        go_quiet (fail)
        go_wp2_with fail
        go_ret
        exact ⟨retb HRR.out, (K2.out.drewN _).below⟩
      | false =>
        rw [hnm] at HRR
        have e3 : (t.name == []) = false := by simpa using hnm
        go_upto_region 7 with fail
        go_region_held3 (fun w' => w'.cell? ⟨b, o + 1, none⟩ = some (.string (str t.name)) ∧ w'.cell? ⟨0, 0, none⟩ = some (.int .i64 m)) (first | go_keep | (go_split_ands; exact ⟨hk6.cell id (by assumption), hk6.cell id (by assumption)⟩) | (go_split_ands; exact ⟨hk5.cell id (by assumption), hk5.cell id (by assumption)⟩))
          ((first
            | (go_at_call 122; refine (split_reads gv m _ (by have := HGC.out; omega) (by assumption)).mono ?_; rintro e w5 ⟨rfl, hk5, hst5⟩)
            | (go_at_call 99; refine (contains_reads _ _ _ t.name (by exact hst5)).mono ?_; rintro e w6 ⟨rfl, hk6⟩)))
        go_wp2_with fail
        go_ret
        exact ⟨retb (by rw [← HRR.out]; simp), ((K2.out.drew.trans hk5).trans hk6).below⟩
    · have e2 : (t.kind == 2) = false := by simp [h2]
      by_cases h3 : t.kind = 3
      · have e3 : (t.kind == 3) = true := by simp [h3]
        have HRR : Hid (((pGet n.attrs idName).2 && (pGet n.attrs idName).1 == t.name) = r) := Lib.hid (by rw [← hR.out]; unfold mTestN; rw [if_neg h1, if_neg h2, if_pos h3])
        clear h1 h2 h3
        go_wp2_with fail
        refine (get_any wa (.slice aa n.attrs.length acap) n idName HAV.out).mono ?_
        rintro e w2 ⟨rfl, hb2⟩
        generalize pGet n.attrs idName = g at *
        obtain ⟨gv, gb⟩ := g
        have q1' := (Kept.of_below (S := fun _ => False) hb2).cell id q1
        have K2 := Lib.hid (KA.out.trans (Kept.of_below hb2))
        clear hb2 q0 q1 q2 n0 n1 n2 n3 n4 n5
        cases gb with
        | true =>
          go_wp2_with fail
          go_ret
          exact ⟨retb HRR.out, K2.out.below⟩
        | false =>
          go_wp2_with fail
          go_ret
          exact ⟨retb HRR.out, K2.out.below⟩
      · have e3 : (t.kind == 3) = false := by simp [h3]
        by_cases h4 : t.kind = 4
        · have e4 : (t.kind == 4) = true := by simp [h4]
          have HRR : Hid ((pGet n.attrs t.name).2 = r) := Lib.hid (by rw [← hR.out]; unfold mTestN; rw [if_neg h1, if_neg h2, if_neg h3, if_pos h4])
          clear h1 h2 h3 h4
          go_upto_region 12 with fail
          go_region_held3 (fun w' => w'.cell? ⟨w.heap.size, 0, none⟩ = some (.string (str n.name)) ∧ w'.cell? ⟨w.heap.size, 1, none⟩ = some (.int .i64 n.parent) ∧ w'.cell? ⟨w.heap.size, 2, none⟩ = some (.slice aa n.attrs.length acap) ∧ w'.cell? ⟨w.heap.size, 3, none⟩ = some (.int .i64 n.nameEnd) ∧ w'.cell? ⟨w.heap.size, 4, none⟩ = some (.int .i64 n.inF) ∧ w'.cell? ⟨w.heap.size, 5, none⟩ = some (.int .i64 n.inT) ∧ w'.cell? ⟨b, o + 1, none⟩ = some (.string (str t.name)) ∧ w'.cell? ⟨b, o + 2, none⟩ = some (.string (str t.val))) (first | go_keep | (go_split_ands; exact ⟨hk5.cell id (by assumption), hk5.cell id (by assumption), hk5.cell id (by assumption), hk5.cell id (by assumption), hk5.cell id (by assumption), hk5.cell id (by assumption), hk5.cell id (by assumption), hk5.cell id (by assumption)⟩))
            ((go_at_call 20; refine (get_reads _ _ n t.name (by exact HAV.out)).mono ?_; rintro e w5 ⟨rfl, hk5⟩))
          go_wp2_with fail
          go_ret
          exact ⟨retb HRR.out, (KA.out.drew.trans hk5).below⟩
        · have e4 : (t.kind == 4) = false := by simp [h4]
          by_cases h5 : t.kind = 5
          · have e5 : (t.kind == 5) = true := by simp [h5]
            have HRR : Hid (((pGet n.attrs t.name).2 && (pGet n.attrs t.name).1 == t.val) = r) := Lib.hid (by rw [← hR.out]; unfold mTestN; rw [if_neg h1, if_neg h2, if_neg h3, if_neg h4, if_pos h5])
            clear h1 h2 h3 h4 h5
            go_upto_region 15 with fail
            go_region_held3 (fun w' => w'.cell? ⟨w.heap.size, 0, none⟩ = some (.string (str n.name)) ∧ w'.cell? ⟨w.heap.size, 1, none⟩ = some (.int .i64 n.parent) ∧ w'.cell? ⟨w.heap.size, 2, none⟩ = some (.slice aa n.attrs.length acap) ∧ w'.cell? ⟨w.heap.size, 3, none⟩ = some (.int .i64 n.nameEnd) ∧ w'.cell? ⟨w.heap.size, 4, none⟩ = some (.int .i64 n.inF) ∧ w'.cell? ⟨w.heap.size, 5, none⟩ = some (.int .i64 n.inT) ∧ w'.cell? ⟨b, o + 1, none⟩ = some (.string (str t.name)) ∧ w'.cell? ⟨b, o + 2, none⟩ = some (.string (str t.val))) (first | go_keep | (go_split_ands; exact ⟨hk5.cell id (by assumption), hk5.cell id (by assumption), hk5.cell id (by assumption), hk5.cell id (by assumption), hk5.cell id (by assumption), hk5.cell id (by assumption), hk5.cell id (by assumption), hk5.cell id (by assumption)⟩))
              ((go_at_call 20; refine (get_reads _ _ n t.name (by exact HAV.out)).mono ?_; rintro e w5 ⟨rfl, hk5⟩))
            have v5 : w5.cell? ⟨b, o + 2, none⟩ = some (.string (str t.val)) := hk5.cell id q2
            generalize pGet n.attrs t.name = g at *
            obtain ⟨gv, gb⟩ := g
            cases gb with
            | true =>
              go_wp2_with fail
              go_ret
              exact ⟨retb HRR.out, (KA.out.drew.trans hk5).below⟩
            | false =>
              go_wp2_with fail
              go_ret
              exact ⟨retb HRR.out, (KA.out.drew.trans hk5).below⟩
          · have e5 : (t.kind == 5) = false := by simp [h5]
            by_cases h6 : t.kind = 6
            · have e6 : (t.kind == 6) = true := by simp [h6]
              have HRR : Hid (decide (pAhead ns (k : Int) < 0) = r) := Lib.hid (by rw [← hR.out]; unfold mTestN; rw [if_neg h1, if_neg h2, if_neg h3, if_neg h4, if_neg h5, if_pos h6])
              clear h1 h2 h3 h4 h5 h6
              have hkk : -9223372036854775808 ≤ (k : Int) ∧ (k : Int) ≤ 9223372036854775807 := by omega
              have HKK := Lib.hid hkk
              go_wp2_with (go_at_call 158; refine (ahead_any _ _ ns (k : Int) HVA.out HKK.out).mono ?_; rintro e w5 ⟨rfl, hq5⟩)
              go_ret
              exact ⟨retb (by rw [← HRR.out]), (KA.out.trans (hq5.kept _)).below⟩
            · have e6 : (t.kind == 6) = false := by simp [h6]
              have HRR : Hid (false = r) := Lib.hid (by rw [← hR.out]; unfold mTestN; rw [if_neg h1, if_neg h2, if_neg h3, if_neg h4, if_neg h5, if_neg h6])
              clear h1 h2 h3 h4 h5 h6
              go_wp2_with fail
              go_ret
              exact ⟨retb HRR.out, KA.out.below⟩
end Go.Proofs.YtplbdlgmjehckabGreatDoor

namespace Go.Proofs.YtplbdlgmjehckabGreatDoor
open Go.RowKit
set_option linter.unusedVariables false
set_option linter.unusedSimpArgs false
def PartAt (w : World) (b o : Nat) (p : PPart) : Prop := ∃ tv, w.cell? ⟨b, o, none⟩ = some (.int .i64 p.join) ∧ w.cell? ⟨b, o + 1, none⟩ = some tv ∧ TestsAt w tv p.tests
theorem PartAt.kept {w w' : World} {b o : Nat} {p : PPart} (h : PartAt w b o p) (hk : Kept (fun _ => False) w w') : PartAt w' b o p := by
  obtain ⟨tv, h1, h2, h3⟩ := h
  exact ⟨tv, hk.cell id h1, hk.cell id h2, tests_firm.kept h3 hk⟩
set_option maxRecDepth 100000 in
set_option maxHeartbeats 1600000 in
theorem part_any (w : World) (v : Value) (ns : List PNode) (k : Nat) (hv : NodesAt w v ns) (hk : k < ns.length) (hs : Short ns) (hn0 : ns.length ≤ 1048576) (b o : Nat) (p : PPart) (hp : PartAt w b o p) (m : Int) (hm : w.cell? ⟨0, 0, none⟩ = some (.int .i64 m)) :
    Calls Tryz.prog 157 #[v, .int .i64 (k : Int), .pointer (some ⟨b, o, none⟩)] w fun e w' => e = .returned (.bool (mPart ns k p)) ∧ Kept (fun _ => False) w w' := by
  obtain ⟨r, HR⟩ : ∃ r, Hid (mPart ns k p = r) := ⟨_, rfl⟩
  rw [HR.out]
  obtain ⟨tv, p0, p1, ht⟩ := hp
  obtain ⟨ta, tc, rfl, htc1, htc2⟩ := TestsAt.form ht
  unfold maxLen at htc2
  have HT := Lib.hid ht
  have HV := Lib.hid hv
  have HS := Lib.hid hs
  have HM := Lib.hid hm
  have HP1 := Lib.hid p1
  clear hv hs hm ht p0
  go_enter Tryz.func157, Tryz.ntmps157
  go_wp2_with fail
  go_loopw [13] (fun i wr => ∃ j : Nat, j ≤ p.tests.length ∧ i = .int .i64 j ∧ Hid (Kept (fun _ => False) w wr) ∧ Hid ((p.tests.take j).all (mTest ns k) = true)) (fun i _ => p.tests.length - (intOf i).toNat)
  case atStart => exact ⟨0, by omega, rfl, Lib.hid (Kept.refl _ _), Lib.hid rfl⟩
  case round =>
    obtain ⟨j, hj, rfl, HK, HJ⟩ := hrel
    by_cases hlt : j < p.tests.length
    · have hx := List.getElem?_eq_getElem hlt
      generalize hgx : p.tests[j] = t at hx
      clear hgx
      obtain ⟨tb, to_, rfl, t0, t1, t2⟩ := TestsAt.at (tests_firm.kept HT.out HK.out) hx
      have HTA : Hid (TestAt wr tb (to_ + j * 3) t) := Lib.hid ⟨t0, t1, t2⟩
      have hpc : wr.cell? ⟨b, o + 1, none⟩ = some (.slice (some ⟨tb, to_, none⟩) p.tests.length tc) := HK.out.cell id HP1.out
      have hm1 := Lib.hid (HK.out.cell id HM.out)
      have HX := Lib.hid hx
      clear hx t0 t1 t2 p1
      cases htst : mTest ns k t with
      | false =>
        have hr : Hid (false = r) := Lib.hid (by
          rw [← HR.out]
          unfold mPart
          symm
          rw [List.all_eq_false]
          exact ⟨t, List.mem_of_getElem? HX.out, by simp [htst]⟩)
        have HTS := Lib.hid htst
        clear htst
        go_wp2_with (go_at_call 168; refine (test_any wr _ ns k (nodes_firm.kept HV.out HK.out) hk HS.out hn0 tb (to_ + j * 3) t HTA.out m hm1.out).mono ?_; rintro e w2 ⟨rfl, hb2⟩; rw [HTS.out])
        go_ret
        exact ⟨retb hr.out, HK.out.trans (Kept.of_below hb2)⟩
      | true =>
        have HTS := Lib.hid htst
        clear htst
        go_wp2_with (go_at_call 168; refine (test_any wr _ ns k (nodes_firm.kept HV.out HK.out) hk HS.out hn0 tb (to_ + j * 3) t HTA.out m hm1.out).mono ?_; rintro e w2 ⟨rfl, hb2⟩; rw [HTS.out])
        go_roundw
        case measure => simp [intOf]; omega
        case rel =>
          refine ⟨j + 1, by omega, by go_num, Lib.hid (HK.out.trans (Kept.of_below hb2)), Lib.hid ?_⟩
          rw [List.take_add_one, HX.out, Option.toList_some, List.all_append, HJ.out]
          simp [HTS.out]
    · obtain rfl : j = p.tests.length := by omega
      go_wp2_with fail
      go_ret
      have h1 := HJ.out
      rw [List.take_length] at h1
      exact ⟨retb (by rw [← HR.out]; unfold mPart; exact h1.symm), HK.out⟩
def Fit (ns : List PNode) : Prop := ∀ n ∈ ns, -9223372036854775808 ≤ n.parent ∧ n.parent ≤ 9223372036854775807
structure MtCtx (ns : List PNode) : Prop where
  short : Short ns
  few : ns.length ≤ 1048576
  fit : Fit ns
def AtEnds (w : World) (r : Bool) (e : Ending) (w' : World) : Prop := e = .returned (.bool r) ∧ Kept (fun _ => False) w w'
theorem parentOf_at {ns : List PNode} {k : Nat} {x : PNode} (h : ns[k]? = some x) : parentOf ns k = x.parent := by unfold parentOf; rw [h]
def upsAny (ns : List PNode) (q : Int → Bool) (k : Nat) (u : Int) : Bool := if 0 ≤ u ∧ u < (k : Int) then q u || (ups ns u.toNat).any (fun x => q (x : Int)) else false
theorem ups_any (ns : List PNode) (q : Int → Bool) (k : Nat) : (ups ns k).any (fun x => q (x : Int)) = upsAny ns q k (parentOf ns k) := by
  rw [ups_eq]
  unfold upsAny
  split
  · rename_i h
    rw [List.any_cons, Int.toNat_of_nonneg h.1]
  · rfl
theorem upsAny_next {ns : List PNode} {q : Int → Bool} {k u : Nat} (hu : u < k) (h : parentOf ns u < (u : Int)) : (ups ns u).any (fun x => q (x : Int)) = upsAny ns q k (parentOf ns u) := by
  rw [ups_any]
  unfold upsAny
  by_cases h0 : 0 ≤ parentOf ns u
  · rw [if_pos ⟨h0, h⟩, if_pos ⟨h0, by omega⟩]
  · rw [if_neg (by omega), if_neg (by omega)]
theorem ups_none {ns : List PNode} {u : Nat} (h : (u : Int) ≤ parentOf ns u) : ups ns u = [] := by
  rw [ups_eq, if_neg (by omega)]
theorem rev_take {s : PSel} {n : Nat} {p : PPart} (hn : 1 ≤ n) (hp : s[n - 1]? = some p) : (s.take n).reverse = p :: (s.take (n - 1)).reverse := by
  obtain ⟨j, rfl⟩ : ∃ j, n = j + 1 := ⟨n - 1, by omega⟩
  rw [Nat.add_sub_cancel] at hp ⊢
  rw [List.take_add_one, hp, Option.toList_some, List.reverse_append]
  rfl
theorem ahead_fits (ns : List PNode) (k : Int) (h : ns.length ≤ 1048576) : -1 ≤ pAhead ns k ∧ pAhead ns k ≤ 1048576 := by
  have hl : ∀ (p : Int) (j : Nat), j ≤ ns.length → -1 ≤ lastWith ns p j ∧ lastWith ns p j ≤ 1048576 := by
    intro p j
    induction j with
    | zero => intro _; exact ⟨by simp [lastWith], by simp [lastWith]⟩
    | succ j ih =>
      intro hj
      unfold lastWith
      split
      · omega
      · exact ih (by omega)
  unfold pAhead
  split
  · omega
  · rename_i h0
    split
    · exact hl _ _ (by omega)
    · omega
set_option maxRecDepth 100000 in
set_option maxHeartbeats 3200000 in
theorem at_any (ns : List PNode) (hns : MtCtx ns) (s : PSel) (m : Int) : ∀ (n : Nat), 1 ≤ n → n ≤ s.length → ∀ (w : World) (v sv : Value) (k : Int), NodesAt w v ns → PartsAt w sv s → (-9223372036854775808 ≤ k ∧ k ≤ 9223372036854775807) → w.cell? ⟨0, 0, none⟩ = some (.int .i64 m) →
    Calls Tryz.prog 136 #[v, .int .i64 k, sv, .int .i64 (n : Int)] w (AtEnds w (mAt ns (s.take n).reverse k)) := by
  intro n
  induction n with
  | zero => intro h; omega
  | succ n0 ih =>
  intro hn1 hnl w v sv k hv hp hk hm
  obtain ⟨n, hnn⟩ : ∃ n, n = n0 + 1 := ⟨_, rfl⟩
  rw [← hnn] at hn1 hnl ⊢
  have IH := Lib.hid ih
  have HNN := Lib.hid hnn
  clear ih hnn
  have hpx : ∃ p, s[n - 1]? = some p := ⟨_, List.getElem?_eq_getElem (by omega)⟩
  obtain ⟨p, hpp⟩ := hpx
  obtain ⟨q, HQ⟩ : ∃ q, Hid (mAt ns (s.take (n - 1)).reverse = q) := ⟨_, rfl⟩
  have hR0 : mAt ns (s.take n).reverse k = (inR ns k && mPart ns k.toNat p && ((s.take (n - 1)).reverse.isEmpty || mJoin ns p.join q k.toNat)) := by
    rw [rev_take hn1 hpp, mAt, HQ.out]
  obtain ⟨r, HR⟩ : ∃ r, Hid (mAt ns (s.take n).reverse k = r) := ⟨_, rfl⟩
  rw [HR.out]
  have hR := Lib.hid (hR0.symm.trans HR.out)
  clear hR0
  obtain ⟨na, ncap, rfl, hnc1, hnc2⟩ := hv.form
  obtain ⟨pa, pcap, rfl, hpc1, hpc2⟩ := NestAt.form hp
  unfold maxLen at hnc2 hpc2
  obtain ⟨pb, po, tv, rfl, hpc, hpt⟩ := NestAt.at hp hpp
  have HPA : Hid (PartAt w pb (po + (n - 1) * 2) p) := Lib.hid ⟨tv, hpc 0 _ rfl, hpc 1 _ rfl, hpt⟩
  have HNI : Hid ((n : Int) - 1 = ((n - 1 : Nat) : Int)) := Lib.hid (by omega)
  have pj : w.cell? ⟨pb, po + (n - 1) * 2, none⟩ = some (.int .i64 p.join) := hpc 0 _ rfl
  have HV := Lib.hid hv
  have HP := Lib.hid hp
  have HM := Lib.hid hm
  have HPP := Lib.hid hpp
  have hfew := hns.few
  obtain ⟨hk1, hk2⟩ := hk
  clear hv hp hm hpp hpc hpt
  by_cases h0 : k < 0
  · have hr : Hid (false = r) := Lib.hid (by rw [← hR.out]; have : inR ns k = false := by simp [inR]; omega
                                             simp [this])
    go_enter Tryz.func136, Tryz.ntmps136
    go_wp2_with fail
    go_ret
    exact ⟨retb hr.out, Kept.refl _ _⟩
  · by_cases h1 : (ns.length : Int) ≤ k
    · have hr : Hid (false = r) := Lib.hid (by rw [← hR.out]; have : inR ns k = false := by simp [inR]; omega
                                               simp [this])
      go_enter Tryz.func136, Tryz.ntmps136
      go_wp2_with fail
      go_ret
      exact ⟨retb hr.out, Kept.refl _ _⟩
    · obtain ⟨kn, rfl⟩ : ∃ j : Nat, k = j := ⟨k.toNat, by omega⟩
      have hkl : kn < ns.length := by omega
      have hin : inR ns (kn : Int) = true := by simp [inR]; omega
      have hR2 : Hid ((mPart ns kn p && ((s.take (n - 1)).reverse.isEmpty || mJoin ns p.join q kn)) = r) := Lib.hid (by rw [← hR.out, hin]; simp)
      have HPT := Lib.hid (part_any w _ ns kn HV.out hkl hns.short hns.few pb _ p HPA.out m HM.out)
      clear hin
      cases hpart : mPart ns kn p with
      | false =>
        rw [hpart] at HPT hR2
        have hr : Hid (false = r) := Lib.hid (by rw [← hR2.out]; rfl)
        clear hpart
        go_enter Tryz.func136, Tryz.ntmps136
        go_wp2_with (go_at_call 157; refine HPT.out.mono ?_; rintro e w2 ⟨rfl, hk2⟩)
        go_ret
        exact ⟨retb hr.out, hk2⟩
      | true =>
        rw [hpart] at HPT hR2
        clear hpart
        have hx := List.getElem?_eq_getElem hkl
        generalize hgx : ns[kn] = x at hx
        clear hgx
        have HX := Lib.hid hx
        have hpf := hns.fit x (List.mem_of_getElem? hx)
        have hpo : Hid (parentOf ns kn = x.parent) := Lib.hid (parentOf_at hx)
        clear hx
        by_cases h1n : n = 1
        · have hr : Hid (true = r) := Lib.hid (by rw [← hR2.out, h1n]; rfl)
          have g : ((n : Int) == 1) = true := by simp [h1n]
          clear h1n
          go_enter Tryz.func136, Tryz.ntmps136
          go_wp2_with (go_at_call 157; refine HPT.out.mono ?_; rintro e w2 ⟨rfl, hk2⟩)
          go_ret
          exact ⟨retb hr.out, hk2⟩
        · have g : ((n : Int) == 1) = false := by simp; omega
          have hne : (s.take (n - 1)).reverse.isEmpty = false := by
            rw [List.isEmpty_eq_false_iff]
            intro h
            have h2 : (s.take (n - 1)).reverse.length = n - 1 := by rw [List.length_reverse, List.length_take]; omega
            rw [h] at h2
            simp at h2; omega
          have hR3 : Hid (mJoin ns p.join q kn = r) := Lib.hid (by rw [← hR2.out, hne]; simp)
          have IH2 : Hid (∀ (w : World) (k : Int), NodesAt w (.slice na ns.length ncap) ns → PartsAt w (.slice (some ⟨pb, po, none⟩) (List.length s) pcap) s → (-9223372036854775808 ≤ k ∧ k ≤ 9223372036854775807) → w.cell? ⟨0, 0, none⟩ = some (.int .i64 m) →
              Calls Tryz.prog 136 #[.slice na ns.length ncap, .int .i64 k, .slice (some ⟨pb, po, none⟩) (List.length s) pcap, .int .i64 ((n : Int) - 1)] w (AtEnds w (q k))) := Lib.hid (by
            intro w k h1 h2 h3 h4
            have := IH.out (by have := HNN.out; omega) (by have := HNN.out; omega) w _ _ k h1 h2 h3 h4
            rw [show n0 = n - 1 from by have := HNN.out; omega, HQ.out] at this
            rw [HNI.out]; exact this)
          clear hne h1n
          by_cases hj2 : p.join = 2
          · have e2 : (p.join == 2) = true := by simp [hj2]
            have hr : Hid (q x.parent = r) := Lib.hid (by rw [← hR3.out, ← hpo.out]; unfold mJoin; rw [if_pos hj2])
            clear hj2
            obtain ⟨nb, noff, av, rfl, g0, g1, g2, g3, g4, g5, hav⟩ := HV.out.at HX.out
            go_enter Tryz.func136, Tryz.ntmps136
            go_wp2_with fail
            refine HPT.out.mono ?_
            rintro e w2 ⟨rfl, hk2⟩
            have g1' := hk2.cell id g1
            have pj' := hk2.cell id pj
            have HV2 := Lib.hid (nodes_firm.kept HV.out hk2)
            have HP2 := Lib.hid (parts_firm.kept HP.out hk2)
            have HM2 := Lib.hid (hk2.cell id HM.out)
            clear g0 g1 g2 g3 g4 g5 hav pj
            go_wp2_with (go_at_call 136; refine (IH2.out w2 x.parent HV2.out HP2.out hpf HM2.out).mono ?_; rintro e w3 ⟨rfl, hk3⟩)
            go_ret
            exact ⟨retb hr.out, hk2.trans hk3⟩
          · have e2 : (p.join == 2) = false := by simp [hj2]
            by_cases hj3 : p.join = 3
            · have e3 : (p.join == 3) = true := by simp [hj3]
              have hr : Hid (q (pAhead ns (kn : Int)) = r) := Lib.hid (by rw [← hR3.out]; unfold mJoin; rw [if_neg hj2, if_pos hj3])
              have haf := ahead_fits ns (kn : Int) hns.few
              clear hj2 hj3
              go_enter Tryz.func136, Tryz.ntmps136
              go_wp2_with fail
              refine HPT.out.mono ?_
              rintro e w2 ⟨rfl, hk2⟩
              have pj' := hk2.cell id pj
              have HV2 := Lib.hid (nodes_firm.kept HV.out hk2)
              have HP2 := Lib.hid (parts_firm.kept HP.out hk2)
              have HM2 := Lib.hid (hk2.cell id HM.out)
              clear pj
              go_wp2_with fail
              refine (ahead_any w2 _ ns (kn : Int) HV2.out (by omega)).mono ?_
              rintro e w3 ⟨rfl, hq3⟩
              have hk3 : Kept (fun _ => False) w2 w3 := hq3.kept _
              have HV3 := Lib.hid (nodes_firm.kept HV2.out hk3)
              have HP3 := Lib.hid (parts_firm.kept HP2.out hk3)
              have HM3 := Lib.hid (hk3.cell id HM2.out)
              go_wp2_with (go_at_call 136; refine (IH2.out w3 _ HV3.out HP3.out (by omega) HM3.out).mono ?_; rintro e w4 ⟨rfl, hk4⟩)
              go_ret
              exact ⟨retb hr.out, (hk2.trans hk3).trans hk4⟩
            · have e3 : (p.join == 3) = false := by simp [hj3]
              by_cases hj1 : p.join = 1
              · have e1 : (p.join == 1) = true := by simp [hj1]
                have hr : Hid (upsAny ns q kn x.parent = r) := Lib.hid (by rw [← hR3.out, ← hpo.out, ← ups_any]; unfold mJoin; rw [if_neg hj2, if_neg hj3, if_pos hj1])
                clear hj1 hj2 hj3
                obtain ⟨nb, noff, av, rfl, g0, g1, g2, g3, g4, g5, hav⟩ := HV.out.at HX.out
                go_enter Tryz.func136, Tryz.ntmps136
                go_wp2_with fail
                refine HPT.out.mono ?_
                rintro e w2 ⟨rfl, hk2⟩
                have g1' := hk2.cell id g1
                have pj' := hk2.cell id pj
                have HV2 := Lib.hid (nodes_firm.kept HV.out hk2)
                have HP2 := Lib.hid (parts_firm.kept HP.out hk2)
                have HM2 := Lib.hid (hk2.cell id HM.out)
                have HK2 := Lib.hid hk2
                clear g0 g1 g2 g3 g4 g5 hav pj hk2
                go_wp2_with fail
                go_loopw [9] (fun u wr => ∃ z : Int, u = .int .i64 z ∧ -9223372036854775808 ≤ z ∧ z ≤ 9223372036854775807 ∧ Hid (Kept (fun _ => False) w2 wr) ∧ Hid (upsAny ns q kn z = r)) (fun u _ => (intOf u + 1).toNat)
                case atStart => exact ⟨x.parent, rfl, hpf.1, hpf.2, Lib.hid (Kept.refl _ _), hr⟩
                case round =>
                  obtain ⟨z, rfl, hz1, hz2, HK, HU⟩ := hrel
                  by_cases hz : 0 ≤ z ∧ z < (kn : Int)
                  · obtain ⟨u, rfl⟩ : ∃ u : Nat, z = u := ⟨z.toNat, by omega⟩
                    have hul : u < ns.length := by omega
                    have huk : u < kn := by omega
                    have d1 : (0 : Int) ≤ (u : Int) := by omega
                    have d2 : (u : Int) < (kn : Int) := by omega
                    have hU : Hid ((q (u : Int) || (ups ns u).any (fun x => q (x : Int))) = r) := Lib.hid (by
                      rw [← HU.out]; unfold upsAny; rw [if_pos hz]; rfl)
                    have hy := List.getElem?_eq_getElem hul
                    generalize hgy : ns[u] = y at hy
                    clear hgy
                    have hyf := hns.fit y (List.mem_of_getElem? hy)
                    have hyo : Hid (parentOf ns u = y.parent) := Lib.hid (parentOf_at hy)
                    have hvr := nodes_firm.kept HV2.out HK.out
                    obtain ⟨nb2, noff2, av2, hbb, _, y1, _⟩ := hvr.at hy
                    cases hbb
                    have HVR := Lib.hid hvr
                    have HPR := Lib.hid (parts_firm.kept HP2.out HK.out)
                    have HMR := Lib.hid (HK.out.cell id HM2.out)
                    clear hy hz hvr
                    have HCALL := Lib.hid (IH2.out wr (u : Int) HVR.out HPR.out (by omega) HMR.out)
                    cases hq : q (u : Int) with
                    | true =>
                      rw [hq] at HCALL hU
                      have hrr : Hid (true = r) := Lib.hid (by rw [← hU.out]; rfl)
                      clear hq y1
                      go_wp2_with (go_at_call 136; refine HCALL.out.mono ?_; rintro e w3 ⟨rfl, hk3⟩)
                      go_ret
                      exact ⟨retb hrr.out, (HK2.out.trans HK.out).trans hk3⟩
                    | false =>
                      rw [hq] at HCALL hU
                      clear hq
                      go_wp2_with fail
                      refine HCALL.out.mono ?_
                      rintro e w3 ⟨rfl, hk3⟩
                      have y1' := hk3.cell id y1
                      have HK3 := Lib.hid (HK.out.trans hk3)
                      clear y1 hk3
                      by_cases hyu : (u : Int) ≤ y.parent
                      · have hrr : Hid (false = r) := Lib.hid (by rw [← hU.out, ups_none (by rw [hyo.out]; exact hyu)]; rfl)
                        go_wp2_with fail
                        go_ret
                        exact ⟨retb hrr.out, HK2.out.trans HK3.out⟩
                      · have hrr : Hid (upsAny ns q kn y.parent = r) := Lib.hid (by
                          rw [← hU.out, Bool.false_or, upsAny_next huk (by rw [hyo.out]; omega), hyo.out])
                        go_wp2_with fail
                        go_roundw
                        case measure => simp [intOf]; omega
                        case rel => exact ⟨y.parent, rfl, hyf.1, hyf.2, HK3, hrr⟩
                  · have hrr : Hid (false = r) := Lib.hid (by rw [← HU.out]; unfold upsAny; rw [if_neg hz])
                    by_cases hz0 : 0 ≤ z
                    · have hzk : ¬ z < (kn : Int) := fun h => hz ⟨hz0, h⟩
                      clear hz
                      go_wp2_with fail
                      go_ret
                      exact ⟨retb hrr.out, HK2.out.trans HK.out⟩
                    · clear hz
                      go_wp2_with fail
                      go_ret
                      exact ⟨retb hrr.out, HK2.out.trans HK.out⟩
              · have e1 : (p.join == 1) = false := by simp [hj1]
                have hr : Hid (false = r) := Lib.hid (by rw [← hR3.out]; unfold mJoin; rw [if_neg hj2, if_neg hj3, if_neg hj1])
                clear hj1 hj2 hj3
                go_enter Tryz.func136, Tryz.ntmps136
                go_wp2_with fail
                refine HPT.out.mono ?_
                rintro e w2 ⟨rfl, hk2⟩
                have pj' := hk2.cell id pj
                clear pj
                go_wp2_with fail
                go_ret
                exact ⟨retb hr.out, hk2⟩
end Go.Proofs.YtplbdlgmjehckabGreatDoor

namespace Go.Proofs.YtplbdlgmjehckabGreatDoor
open Go.RowKit
set_option linter.unusedVariables false
set_option linter.unusedSimpArgs false
set_option maxRecDepth 100000 in
set_option maxHeartbeats 1600000 in
theorem matches_any (ns : List PNode) (hns : MtCtx ns) (s : PSel) (m : Int) (w : World) (v sv : Value) (k : Int) (hv : NodesAt w v ns) (hp : PartsAt w sv s) (hk : -9223372036854775808 ≤ k ∧ k ≤ 9223372036854775807) (hm : w.cell? ⟨0, 0, none⟩ = some (.int .i64 m)) :
    Calls Tryz.prog 97 #[v, .int .i64 k, sv] w (AtEnds w (mMatches ns k s)) := by
  obtain ⟨r, HR⟩ : ∃ r, Hid (mMatches ns k s = r) := ⟨_, rfl⟩
  rw [HR.out]
  obtain ⟨na, ncap, rfl, hnc1, hnc2⟩ := hv.form
  obtain ⟨pa, pcap, rfl, hpc1, hpc2⟩ := NestAt.form hp
  unfold maxLen at hnc2 hpc2
  have hfew := hns.few
  by_cases hs0 : s = []
  · have hl0 : List.length s = 0 := by simp [hs0]
    have hr : Hid (false = r) := Lib.hid (by rw [← HR.out, hs0]; rfl)
    rw [hl0]
    clear hl0 hv hp
    go_enter Tryz.func97, Tryz.ntmps97
    go_wp2_with fail
    go_ret
    exact ⟨retb hr.out, Kept.refl _ _⟩
  · have hl0 : 0 < List.length s := List.length_pos_iff.2 hs0
    have hR : Hid (mAt ns s.reverse k = r) := Lib.hid (by
      rw [← HR.out]; unfold mMatches
      rw [show s.isEmpty = false from by simpa using hs0]; rfl)
    by_cases h0 : k < 0
    · have hr : Hid (false = r) := Lib.hid (by
        rw [← hR.out]
        cases h : mAt ns s.reverse k with
        | false => rfl
        | true => have := mAt_inR h; simp [inR] at this; omega)
      clear hv hp
      go_enter Tryz.func97, Tryz.ntmps97
      go_wp2_with fail
      go_ret
      exact ⟨retb hr.out, Kept.refl _ _⟩
    · by_cases h1 : (ns.length : Int) ≤ k
      · have hr : Hid (false = r) := Lib.hid (by
          rw [← hR.out]
          cases h : mAt ns s.reverse k with
          | false => rfl
          | true => have := mAt_inR h; simp [inR] at this; omega)
        clear hv hp
        go_enter Tryz.func97, Tryz.ntmps97
        go_wp2_with fail
        go_ret
        exact ⟨retb hr.out, Kept.refl _ _⟩
      · have HC := Lib.hid (at_any ns hns s m (List.length s) (by omega) (Nat.le_refl _) w _ _ k hv hp hk hm)
        rw [List.take_length, hR.out] at HC
        clear hv hp
        go_enter Tryz.func97, Tryz.ntmps97
        go_wp2_with (go_at_call 136; refine HC.out.mono ?_; rintro e w3 ⟨rfl, hk3⟩)
        go_ret
        exact ⟨rfl, hk3⟩
def nTests (s : PSel) : Nat := (s.map fun p => p.tests.length).sum
def wtVal (x : PWt) : Value := .agg #[.int .i64 (x.a : Int), .int .i64 (x.b : Int), .int .i64 (x.c : Int)]
def WtAt (w : World) (c : Nat) (x : PWt) : Prop := w.heap[c]? = some (.cells #[.int .i64 (x.a : Int), .int .i64 (x.b : Int), .int .i64 (x.c : Int)] 91 (0, 0))
def PWt.low (x : PWt) (n : Nat) : Prop := x.a ≤ n ∧ x.b ≤ n ∧ x.c ≤ n
theorem wTest_low {x : PWt} {n : Nat} (h : x.low n) (t : PTest) : (wTest x t).low (n + 1) := by
  obtain ⟨h1, h2, h3⟩ := h
  unfold wTest
  split
  · exact ⟨by simp; omega, by simp; omega, by simp; omega⟩
  · split
    · exact ⟨by simp; omega, by simp; omega, by simp; omega⟩
    · split
      · exact ⟨by simp; omega, by simp; omega, by simp; omega⟩
      · exact ⟨by omega, by omega, by omega⟩
theorem nTests_take (s : PSel) (i : Nat) {p : PPart} (h : s[i]? = some p) : nTests (s.take (i + 1)) = nTests (s.take i) + p.tests.length := by
  unfold nTests
  rw [List.take_add_one, h, Option.toList_some, List.map_append, List.sum_append]
  simp
theorem nTests_le (s : PSel) (i : Nat) : nTests (s.take i) ≤ nTests s := by
  unfold nTests
  conv => rhs; rw [← List.take_append_drop i s, List.map_append, List.sum_append]
  omega
structure WLp (w wr : World) (x : PWt) (n : Nat) : Prop where
  at_ : WtAt wr (w.heap.size + 1) x
  res : WtAt wr w.heap.size ⟨0, 0, 0⟩
  kept : Kept (fun _ => False) w wr
  low : x.low n
theorem WLp.alloc {w wr : World} {x : PWt} {n : Nat} (h : WLp w wr x n) (o : Obj) : WLp w (wr.alloc o) x n := ⟨oldIn h.at_ o, oldIn h.res o, h.kept.alloc o, h.low⟩
theorem WLp.cell {w wr : World} {x : PWt} {n : Nat} (h : WLp w wr x n) : wr.cell? ⟨w.heap.size + 1, 0, none⟩ = some (.int .i64 (x.a : Int)) ∧ wr.cell? ⟨w.heap.size + 1, 1, none⟩ = some (.int .i64 (x.b : Int)) ∧ wr.cell? ⟨w.heap.size + 1, 2, none⟩ = some (.int .i64 (x.c : Int)) :=
  ⟨cellIn h.at_ 0 rfl, cellIn h.at_ 1 rfl, cellIn h.at_ 2 rfl⟩
theorem WLp.put {w wr : World} {x y : PWt} {n m : Nat} (h : WLp w wr x n) (j : Nat) (z : Int) (hy : (#[Value.int .i64 (x.a : Int), .int .i64 (x.b : Int), .int .i64 (x.c : Int)]).setIfInBounds j (.int .i64 z) = #[.int .i64 (y.a : Int), .int .i64 (y.b : Int), .int .i64 (y.c : Int)]) (hl : y.low m) :
    WLp w (wr.setCell ⟨w.heap.size + 1, j, none⟩ (.int .i64 z)) y m := by
  refine ⟨?_, otherIn h.res _ _ (by show w.heap.size ≠ w.heap.size + 1; omega), h.kept.setCell (p := ⟨w.heap.size + 1, j, none⟩) (.inr (by show w.heap.size ≤ w.heap.size + 1; omega)) _, hl⟩
  have := setIn h.at_ j (.int .i64 z)
  rw [hy] at this
  exact this
theorem low_mono {x : PWt} {n m : Nat} (h : x.low n) (hn : n ≤ m) : x.low m := ⟨Nat.le_trans h.1 hn, Nat.le_trans h.2.1 hn, Nat.le_trans h.2.2 hn⟩
set_option maxRecDepth 100000 in
set_option maxHeartbeats 3200000 in
theorem weigh_any (s : PSel) (w : World) (sv : Value) (hp : PartsAt w sv s) (hn : nTests s ≤ 1048576) :
    Calls Tryz.prog 98 #[sv] w fun e w' => e = .returned (wtVal (mWeigh s)) ∧ Kept (fun _ => False) w w' := by
  obtain ⟨pa, pcap, rfl, hpc1, hpc2⟩ := NestAt.form hp
  unfold maxLen at hpc2
  have HP := Lib.hid hp
  have HN := Lib.hid hn
  clear hp hn
  have hw0 : WLp w ((w.alloc (.cells #[.int .i64 0, .int .i64 0, .int .i64 0] 91 (0, 0))).alloc (.cells #[.int .i64 0, .int .i64 0, .int .i64 0] 91 (0, 0))) ⟨0, 0, 0⟩ 0 := by
    refine ⟨?_, oldIn (newIn w _) _, ((Kept.refl _ w).alloc _).alloc _, Nat.le_refl _, Nat.le_refl _, Nat.le_refl _⟩
    have := newIn (w.alloc (.cells #[.int .i64 0, .int .i64 0, .int .i64 0] 91 (0, 0))) (.cells #[.int .i64 0, .int .i64 0, .int .i64 0] 91 (0, 0))
    simpa [WtAt] using this
  have HW0 := Lib.hid hw0
  clear hw0
  go_enter Tryz.func98, Tryz.ntmps98
  go_wp2_with fail
  go_loopw [10] (fun i wr => ∃ (k : Nat) (x : PWt), k ≤ List.length s ∧ i = .int .i64 k ∧ Hid (WLp w wr x (nTests (s.take k))) ∧ Hid ((s.take k).foldl wPart ⟨0, 0, 0⟩ = x)) (fun i _ => List.length s - (intOf i).toNat)
  case atStart => exact ⟨0, ⟨0, 0, 0⟩, by omega, rfl, HW0, Lib.hid rfl⟩
  case round =>
    obtain ⟨i, x0, hi, rfl, HL, HX0⟩ := hrel
    obtain ⟨wr0, hwr0⟩ : ∃ x, x = wr := ⟨_, rfl⟩
    subst hwr0
    by_cases hlt : i < List.length s
    · have hx := List.getElem?_eq_getElem hlt
      generalize hgx : s[i] = p at hx
      clear hgx
      obtain ⟨pb, po, tv, rfl, hpc, hpt⟩ := NestAt.at HP.out hx
      have p0 : wr0.cell? ⟨pb, po + i * 2, none⟩ = some (.int .i64 p.join) := HL.out.kept.cell id (hpc 0 _ rfl)
      have p1 : wr0.cell? ⟨pb, po + i * 2 + 1, none⟩ = some tv := HL.out.kept.cell id (hpc 1 _ rfl)
      obtain ⟨ta, tc, rfl, htc1, htc2⟩ := TestsAt.form hpt
      unfold maxLen at htc2
      have hnt := nTests_take s i hx
      have hnl := nTests_le s (i + 1)
      have HNT := Lib.hid hnt
      have hbase : Hid (nTests (s.take i) + p.tests.length ≤ 1048576) := Lib.hid (by have := HN.out; omega)
      have HX := Lib.hid hx
      have HPT := Lib.hid hpt
      clear hx hpc hpt hnt hnl
      go_upto_region 5 with fail
      obtain ⟨wa, HWA⟩ : ∃ x', Hid (wr0.alloc (.cells #[.int .i64 p.join, .slice ta p.tests.length tc] 192 (0, 0)) = x') := ⟨_, rfl⟩
      have c1 : wa.cell? ⟨wr0.heap.size, 1, none⟩ = some (.slice ta p.tests.length tc) := by rw [← HWA.out]; exact cellIn (newIn wr0 _) 1 rfl
      have HLA : Hid (WLp w wa x0 (nTests (s.take i))) := Lib.hid (by rw [← HWA.out]; exact HL.out.alloc _)
      clear p0 p1
      rw [HWA.out]
      go_wp2_with fail
      go_loopw [17] (fun j wx => ∃ (l : Nat) (x : PWt), l ≤ p.tests.length ∧ j = .int .i64 l ∧ Hid (WLp w wx x (nTests (s.take i) + l)) ∧ Hid ((p.tests.take l).foldl wTest x0 = x)) (fun j _ => p.tests.length - (intOf j).toNat)
      case atStart => exact ⟨0, x0, by omega, rfl, HLA, Lib.hid rfl⟩
      case round =>
        obtain ⟨l, x, hl, rfl, HM, HXJ⟩ := hrel
        by_cases hlt2 : l < p.tests.length
        · have hy := List.getElem?_eq_getElem hlt2
          generalize hgy : p.tests[l] = t at hy
          clear hgy
          obtain ⟨tb, to_, rfl, t0, t1, t2⟩ := TestsAt.at (tests_firm.kept HPT.out HM.out.kept) hy
          have HY := Lib.hid hy
          clear hy
          go_upto_region 8 with fail
          obtain ⟨wb, HWB⟩ : ∃ x', Hid (wr.alloc (.cells #[.int .i64 t.kind, .string (str t.name), .string (str t.val)] 194 (0, 0)) = x') := ⟨_, rfl⟩
          have d0 : wb.cell? ⟨wr.heap.size, 0, none⟩ = some (.int .i64 t.kind) := by rw [← HWB.out]; exact cellIn (newIn wr _) 0 rfl
          have HMB : Hid (WLp w wb x (nTests (s.take i) + l)) := Lib.hid (by rw [← HWB.out]; exact HM.out.alloc _)
          obtain ⟨x1, x2, x3⟩ := HMB.out.cell
          have hlow := HMB.out.low
          obtain ⟨l1, l2, l3⟩ := hlow
          have hb1 := hbase.out
          have fz := freeIn HMB.out.at_
          have f0 := fz 0
          have f1 := fz 1
          have f2 := fz 2
          have hnx : Hid ((p.tests.take (l + 1)).foldl wTest x0 = wTest x t) := Lib.hid (by
            rw [List.take_add_one, HY.out, Option.toList_some, List.foldl_append, HXJ.out]; rfl)
          have hlw := Lib.hid (wTest_low HMB.out.low t)
          obtain ⟨xa, xb, xc⟩ := x
          simp only at x1 x2 x3 l1 l2 l3
          clear t0 t1 t2 fz
          rw [HWB.out]
          by_cases k3 : t.kind = 3
          · have e3 : (t.kind == 3) = true := by simp [k3]
            have hy : Hid (wTest ⟨xa, xb, xc⟩ t = ⟨xa + 1, xb, xc⟩) := Lib.hid (by simp [wTest, k3])
            rw [hy.out] at hnx hlw
            clear k3
            go_wp2_with fail
            go_roundw
            case measure => simp [intOf]; omega
            case rel => exact ⟨l + 1, _, by omega, by go_num, Lib.hid (HMB.out.put 0 _ (by simp) hlw.out), hnx⟩
          · have e3 : (t.kind == 3) = false := by simp [k3]
            by_cases k1 : t.kind = 1
            · have e1 : (t.kind == 1) = true := by simp [k1]
              have hy : Hid (wTest ⟨xa, xb, xc⟩ t = ⟨xa, xb, xc + 1⟩) := Lib.hid (by simp [wTest, k1])
              rw [hy.out] at hnx hlw
              clear k3 k1
              go_wp2_with fail
              go_roundw
              case measure => simp [intOf]; omega
              case rel => exact ⟨l + 1, _, by omega, by go_num, Lib.hid (HMB.out.put 2 _ (by simp) hlw.out), hnx⟩
            · have e1 : (t.kind == 1) = false := by simp [k1]
              by_cases k2 : t.kind = 2
              · have e2 : (t.kind == 2) = true := by simp [k2]
                have hy : Hid (wTest ⟨xa, xb, xc⟩ t = ⟨xa, xb + 1, xc⟩) := Lib.hid (by simp [wTest, k2])
                rw [hy.out] at hnx hlw
                clear k3 k1 k2
                go_wp2_with fail
                go_roundw
                case measure => simp [intOf]; omega
                case rel => exact ⟨l + 1, _, by omega, by go_num, Lib.hid (HMB.out.put 1 _ (by simp) hlw.out), hnx⟩
              · have e2 : (t.kind == 2) = false := by simp [k2]
                by_cases k4 : t.kind = 4
                · have e4 : (t.kind == 4) = true := by simp [k4]
                  have hy : Hid (wTest ⟨xa, xb, xc⟩ t = ⟨xa, xb + 1, xc⟩) := Lib.hid (by simp [wTest, k4])
                  rw [hy.out] at hnx hlw
                  clear k3 k1 k2 k4
                  go_wp2_with fail
                  go_roundw
                  case measure => simp [intOf]; omega
                  case rel => exact ⟨l + 1, _, by omega, by go_num, Lib.hid (HMB.out.put 1 _ (by simp) hlw.out), hnx⟩
                · have e4 : (t.kind == 4) = false := by simp [k4]
                  by_cases k5 : t.kind = 5
                  · have e5 : (t.kind == 5) = true := by simp [k5]
                    have hy : Hid (wTest ⟨xa, xb, xc⟩ t = ⟨xa, xb + 1, xc⟩) := Lib.hid (by simp [wTest, k5])
                    rw [hy.out] at hnx hlw
                    clear k3 k1 k2 k4 k5
                    go_wp2_with fail
                    go_roundw
                    case measure => simp [intOf]; omega
                    case rel => exact ⟨l + 1, _, by omega, by go_num, Lib.hid (HMB.out.put 1 _ (by simp) hlw.out), hnx⟩
                  · have e5 : (t.kind == 5) = false := by simp [k5]
                    by_cases k6 : t.kind = 6
                    · have e6 : (t.kind == 6) = true := by simp [k6]
                      have hy : Hid (wTest ⟨xa, xb, xc⟩ t = ⟨xa, xb + 1, xc⟩) := Lib.hid (by simp [wTest, k6])
                      rw [hy.out] at hnx hlw
                      clear k3 k1 k2 k4 k5 k6
                      go_wp2_with fail
                      go_roundw
                      case measure => simp [intOf]; omega
                      case rel => exact ⟨l + 1, _, by omega, by go_num, Lib.hid (HMB.out.put 1 _ (by simp) hlw.out), hnx⟩
                    · have e6 : (t.kind == 6) = false := by simp [k6]
                      have hy : Hid (wTest ⟨xa, xb, xc⟩ t = ⟨xa, xb, xc⟩) := Lib.hid (by simp [wTest, k3, k1, k2, k4, k5, k6])
                      clear k3 k1 k2 k4 k5 k6
                      rw [hy.out] at hnx hlw
                      go_wp2_with fail
                      go_roundw
                      case measure => simp [intOf]; omega
                      case rel => exact ⟨l + 1, _, by omega, by go_num, Lib.hid ⟨HMB.out.at_, HMB.out.res, HMB.out.kept, hlw.out⟩, hnx⟩
        · obtain rfl : l = p.tests.length := by omega
          go_wp2_with fail
          go_roundw
          case measure => simp [intOf]; omega
          case rel =>
            refine ⟨i + 1, x, by omega, by go_num, Lib.hid ?_, Lib.hid ?_⟩
            · rw [HNT.out]; exact HM.out
            · rw [List.take_add_one, HX.out, Option.toList_some, List.foldl_append, HX0.out]
              have := HXJ.out
              rw [List.take_length] at this
              exact this
    · obtain rfl : i = List.length s := by omega
      obtain ⟨x1, x2, x3⟩ := HL.out.cell
      have r0 := freeIn HL.out.res 0
      have r1 := freeIn HL.out.res 1
      have r2 := freeIn HL.out.res 2
      have q0 : wr0.cell? ⟨w.heap.size, 0, none⟩ = some (.int .i64 ((0 : Nat) : Int)) := cellIn HL.out.res 0 rfl
      have q1 : wr0.cell? ⟨w.heap.size, 1, none⟩ = some (.int .i64 ((0 : Nat) : Int)) := cellIn HL.out.res 1 rfl
      have q2 : wr0.cell? ⟨w.heap.size, 2, none⟩ = some (.int .i64 ((0 : Nat) : Int)) := cellIn HL.out.res 2 rfl
      have hfin : Hid (mWeigh s = x0) := Lib.hid (by have := HX0.out; rw [List.take_length] at this; exact this)
      go_wp2_with fail
      have hz : (((wr0.setCell ⟨w.heap.size, 0, none⟩ (.int .i64 (x0.a : Int))).setCell ⟨w.heap.size, 1, none⟩ (.int .i64 (x0.b : Int))).setCell ⟨w.heap.size, 2, none⟩ (.int .i64 (x0.c : Int))).heap[w.heap.size]? = some (.cells #[.int .i64 (x0.a : Int), .int .i64 (x0.b : Int), .int .i64 (x0.c : Int)] 91 (0, 0)) := by
        have := setIn (setIn (setIn HL.out.res 0 (.int .i64 (x0.a : Int))) 1 (.int .i64 (x0.b : Int))) 2 (.int .i64 (x0.c : Int))
        simpa using this
      have kz : Kept (fun _ => False) w (((wr0.setCell ⟨w.heap.size, 0, none⟩ (.int .i64 (x0.a : Int))).setCell ⟨w.heap.size, 1, none⟩ (.int .i64 (x0.b : Int))).setCell ⟨w.heap.size, 2, none⟩ (.int .i64 (x0.c : Int))) := ((HL.out.kept.setCell (p := ⟨w.heap.size, 0, none⟩) (.inr (Nat.le_refl _)) _).setCell (p := ⟨w.heap.size, 1, none⟩) (.inr (Nat.le_refl _)) _).setCell (p := ⟨w.heap.size, 2, none⟩) (.inr (Nat.le_refl _)) _
      generalize (((wr0.setCell ⟨w.heap.size, 0, none⟩ (.int .i64 (x0.a : Int))).setCell ⟨w.heap.size, 1, none⟩ (.int .i64 (x0.b : Int))).setCell ⟨w.heap.size, 2, none⟩ (.int .i64 (x0.c : Int))) = wz at *
      have z0 : wz.cell? ⟨w.heap.size, 0, none⟩ = some (.int .i64 (x0.a : Int)) := cellIn hz 0 rfl
      have z1 : wz.cell? ⟨w.heap.size, 1, none⟩ = some (.int .i64 (x0.b : Int)) := cellIn hz 1 rfl
      have z2 : wz.cell? ⟨w.heap.size, 2, none⟩ = some (.int .i64 (x0.c : Int)) := cellIn hz 2 rfl
      refine bodyPost_ret (v := wtVal x0) (by simp [results, Tryz.results98, go_sem, z0, z1, z2, wtVal]) rfl ?_
      rw [hfin.out]
      exact ⟨rfl, kz⟩
end Go.Proofs.YtplbdlgmjehckabGreatDoor

