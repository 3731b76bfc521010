/-
 Lemmas for the claims of this seat: the program's functions walked, and plain laws. In this order: R3Test R3Means.
-/
import Derived.Test.YtplbdlgmjehckacGreatDoorPkFoSameFull28
import Derived.Test.YtplbdlgmjehckacGreatDoorPk13
import Derived.Test.YtplbdlgmjehckacGreatDoorPk14
import Derived.Test.YtplbdlgmjehckacGreatDoorPk4
namespace Go.Proofs.YtplbdlgmjehckacGreatDoor
open Go.RowKit
set_option linter.unusedVariables false
set_option linter.unusedSimpArgs false
def keyOf (t : PTest) : B := if t.kind = 2 then className else if t.kind = 3 then idName else if t.kind = 4 ∨ t.kind = 5 then t.name else []
def kv (s : B) : Option Value := some (.string (str s))
def keyInt (n : B) (x2 x3 x4 x5 : Bool) (k : Int) : Option Value := if k = 2 then (if x2 then kv className else none) else if k = 3 then (if x3 then kv idName else none) else if k = 4 then (if x4 then kv n else none) else if k = 5 then (if x5 then kv n else none) else none
def keyMap (n : B) (x2 x3 x4 x5 : Bool) : Value → Option Value
 | .int .i64 k => keyInt n x2 x3 x4 x5 k
 | _ => none
theorem key_upd {n : B} {x2 x3 x4 x5 y2 y3 y4 y5 : Bool} {k : Int} (h2 : k = 2 ∨ x2 = y2) (h3 : k = 3 ∨ x3 = y3) (h4 : k = 4 ∨ x4 = y4) (h5 : k = 5 ∨ x5 = y5) :
  ∀ y, MapKept.IsKey (.int .i64) y → y ≠ .int .i64 k → keyMap n y2 y3 y4 y5 y = keyMap n x2 x3 x4 x5 y := by
 intro y hy hne
 cases y with
 | int q j =>
  have : q = .i64 := hy
  subst this
  have hj : j ≠ k := fun e => hne (by rw [e])
  show keyInt n y2 y3 y4 y5 j = keyInt n x2 x3 x4 x5 j
  unfold keyInt
  by_cases e2 : j = 2
  ·rw [if_pos e2, if_pos e2, h2.resolve_left (by omega)]
  ·rw [if_neg e2, if_neg e2]
   by_cases e3 : j = 3
   ·rw [if_pos e3, if_pos e3, h3.resolve_left (by omega)]
   ·rw [if_neg e3, if_neg e3]
    by_cases e4 : j = 4
    ·rw [if_pos e4, if_pos e4, h4.resolve_left (by omega)]
    ·rw [if_neg e4, if_neg e4]
     by_cases e5 : j = 5
     ·rw [if_pos e5, if_pos e5, h5.resolve_left (by omega)]
     ·rw [if_neg e5, if_neg e5]
 | _ => exact absurd hy (by simp [MapKept.IsKey])
theorem zero_str (w : World) : (zeroValue 9).run Tryz.prog w = .ok (.string (str [])) w := by kernel_rfl
theorem key_look (t : PTest) (w : World) (b : Nat) (h : MapFn (.int .i64) w b (keyMap t.name true true true true)) :
  (Instr.lookup 230 (.map (some b)) (.int .i64 t.kind) false).run Tryz.prog w = .ok (.string (str (keyOf t))) w := by
 by_cases hk : t.kind = 2 ∨ t.kind = 3 ∨ t.kind = 4 ∨ t.kind = 5
 ·refine h.hit Tryz.underlying230 Tryz.underlying3 (by trivial) ?_ false
  show keyInt t.name true true true true t.kind = _
  unfold keyInt keyOf
  by_cases h2 : t.kind = 2
  ·simp [h2, kv]
  ·by_cases h3 : t.kind = 3
   ·simp [h3, kv]
   ·by_cases h4 : t.kind = 4
    ·simp [h4, kv]
    ·have h5 : t.kind = 5 := by omega
     simp [h5, kv]
 ·refine h.miss Tryz.underlying230 Tryz.underlying3 (by trivial) ?_ ?_ false
  ·show keyInt t.name true true true true t.kind = _
   unfold keyInt
   rw [if_neg (by omega), if_neg (by omega), if_neg (by omega), if_neg (by omega)]
  ·have : keyOf t = [] := by unfold keyOf; rw [if_neg (by omega), if_neg (by omega), if_neg (by omega)]
   rw [this]
   exact zero_str w
def notBlank (c : UInt8) : Bool := !(c == 32)
def wordHit (x : B) : Bool → B → Bool
 | _, [] => false
 | st, c :: t => (st && !((c :: t).takeWhile notBlank).isEmpty && (c :: t).takeWhile notBlank == x) || wordHit x (c == 32) t
theorem split_head : ∀ l : B, (splitB l).head? = some (l.takeWhile notBlank)
 | [] => rfl
 | c :: t => by
  simp only [splitB]
  by_cases hc : c = 32
  ·subst hc; rfl
  ·have ih := split_head t
   have hb : notBlank c = true := by simp [notBlank, hc]
   rw [if_neg hc, List.takeWhile_cons, if_pos hb]
   cases hs : splitB t with
   | nil => exact absurd hs (splitB_ne t)
   | cons w ws =>
    rw [hs] at ih
    simp only [List.head?_cons, Option.some.injEq] at ih
    simp [ih]
theorem word_hit (x : B) : ∀ l : B, wordHit x true l = (!x.isEmpty && (splitB l).contains x) ∧ wordHit x false l = (!x.isEmpty && (splitB l).tail.contains x)
 | [] => by
  cases x with
  | nil => exact ⟨rfl, rfl⟩
  | cons a x => exact ⟨by simp [wordHit, splitB], by simp [wordHit, splitB]⟩
 | c :: t => by
  have ih := word_hit x t
  simp only [wordHit, splitB]
  by_cases hc : c = 32
  ·subst hc
   have e1 : ((32 : UInt8) == 32) = true := rfl
   have e2 : ((32 :: t : B).takeWhile notBlank) = [] := rfl
   rw [e1, ih.1, e2, if_pos rfl]
   cases x with
   | nil => exact ⟨rfl, rfl⟩
   | cons a x => exact ⟨by simp, by simp⟩
  ·have hb : notBlank c = true := by simp [notBlank, hc]
   have e1 : (c == 32) = false := by simpa using hc
   have e2 : ((c :: t : B).takeWhile notBlank) = c :: t.takeWhile notBlank := by rw [List.takeWhile_cons, if_pos hb]
   have hh := split_head t
   rw [e1, ih.2, e2, if_neg hc]
   cases hs : splitB t with
   | nil => exact absurd hs (splitB_ne t)
   | cons w ws =>
    rw [hs] at hh
    simp only [List.head?_cons, Option.some.injEq] at hh
    subst hh
    cases x with
    | nil => exact ⟨by simp, by simp⟩
    | cons a x =>
     refine ⟨?_, by simp⟩
     simp only [List.isEmpty_cons, Bool.not_false, Bool.true_and, List.tail_cons, List.contains_cons]
     rw [show (c :: List.takeWhile notBlank t == a :: x) = (a :: x == c :: List.takeWhile notBlank t) from by rw [Bool.eq_iff_iff, beq_iff_eq, beq_iff_eq]; exact eq_comm]
section
variable {ops : Array Oper} {o : Oper} {a : Act} {K : Act → World → Prop} {Q : Exit → Act → World → Prop} {E : Prop} {wa wc : World} {b : Nat} {n : B} {x2 x3 x4 x5 : Bool}
set_option maxRecDepth 20000 in
theorem arm_key2 (hM : MapFn (.int .i64) wc b (keyMap n x2 x3 x4 x5)) (hK : Kept (fun _ => False) wa wc) (hb : wa.heap.size ≤ b)
  (h : ∀ w', MapFn (.int .i64) w' b (keyMap n true x3 x4 x5) → Kept (fun _ => False) wa w' → K (a.put o.dst undef) w') : Oper.upon Tryz.prog o a K Q ((Sem.run Tryz.prog (Instr.mapUpdate 230 (.map (some b)) (.int .i64 2) (.string ⟨#[99, 108, 97, 115, 115]⟩)) wc).andThen fun _ w' => .ok .skip w') :=
 upon_insert (P := Tryz.prog) (mty := 230) (kt := 3) (et := 9) (kind := .int .i64) Tryz.underlying230 Tryz.underlying3 (keyMap n true x3 x4 x5) hM (by trivial) rfl (key_upd (.inl rfl) (.inr rfl) (.inr rfl) (.inr rfl)) fun w' h1 h2 _ => h w' h1 (hK.trans' h2 fun i hi hx => by omega)
set_option maxRecDepth 20000 in
theorem arm_key3 (hM : MapFn (.int .i64) wc b (keyMap n x2 x3 x4 x5)) (hK : Kept (fun _ => False) wa wc) (hb : wa.heap.size ≤ b)
  (h : ∀ w', MapFn (.int .i64) w' b (keyMap n x2 true x4 x5) → Kept (fun _ => False) wa w' → K (a.put o.dst undef) w') : Oper.upon Tryz.prog o a K Q ((Sem.run Tryz.prog (Instr.mapUpdate 230 (.map (some b)) (.int .i64 3) (.string ⟨#[105, 100]⟩)) wc).andThen fun _ w' => .ok .skip w') :=
 upon_insert (P := Tryz.prog) (mty := 230) (kt := 3) (et := 9) (kind := .int .i64) Tryz.underlying230 Tryz.underlying3 (keyMap n x2 true x4 x5) hM (by trivial) rfl (key_upd (.inr rfl) (.inl rfl) (.inr rfl) (.inr rfl)) fun w' h1 h2 _ => h w' h1 (hK.trans' h2 fun i hi hx => by omega)
set_option maxRecDepth 20000 in
theorem arm_key4 (hM : MapFn (.int .i64) wc b (keyMap n x2 x3 x4 x5)) (hK : Kept (fun _ => False) wa wc) (hb : wa.heap.size ≤ b)
  (h : ∀ w', MapFn (.int .i64) w' b (keyMap n x2 x3 true x5) → Kept (fun _ => False) wa w' → K (a.put o.dst undef) w') : Oper.upon Tryz.prog o a K Q ((Sem.run Tryz.prog (Instr.mapUpdate 230 (.map (some b)) (.int .i64 4) (.string (str n))) wc).andThen fun _ w' => .ok .skip w') :=
 upon_insert (P := Tryz.prog) (mty := 230) (kt := 3) (et := 9) (kind := .int .i64) Tryz.underlying230 Tryz.underlying3 (keyMap n x2 x3 true x5) hM (by trivial) rfl (key_upd (.inr rfl) (.inr rfl) (.inl rfl) (.inr rfl)) fun w' h1 h2 _ => h w' h1 (hK.trans' h2 fun i hi hx => by omega)
set_option maxRecDepth 20000 in
theorem arm_key5 (hM : MapFn (.int .i64) wc b (keyMap n x2 x3 x4 x5)) (hK : Kept (fun _ => False) wa wc) (hb : wa.heap.size ≤ b)
  (h : ∀ w', MapFn (.int .i64) w' b (keyMap n x2 x3 x4 true) → Kept (fun _ => False) wa w' → K (a.put o.dst undef) w') : Oper.upon Tryz.prog o a K Q ((Sem.run Tryz.prog (Instr.mapUpdate 230 (.map (some b)) (.int .i64 5) (.string (str n))) wc).andThen fun _ w' => .ok .skip w') :=
 upon_insert (P := Tryz.prog) (mty := 230) (kt := 3) (et := 9) (kind := .int .i64) Tryz.underlying230 Tryz.underlying3 (keyMap n x2 x3 x4 true) hM (by trivial) rfl (key_upd (.inr rfl) (.inr rfl) (.inr rfl) (.inl rfl)) fun w' h1 h2 _ => h w' h1 (hK.trans' h2 fun i hi hx => by omega)
theorem key_none (n : B) : (fun _ => none : Value → Option Value) = keyMap n false false false false := by
 funext y
 cases y with
 | int q j =>
  cases q with
  | i64 => show none = keyInt n false false false false j; unfold keyInt; simp
  | _ => rfl
 | _ => rfl
theorem arm_made (t : TypeId) (n : B) (hK : Kept (fun _ => False) wa wc)
  (h : ∀ b w', wa.heap.size ≤ b → MapFn (.int .i64) w' b (keyMap n false false false false) → Kept (fun _ => False) wa w' → K (a.put o.dst (.map (some b))) w') : Oper.upon Tryz.prog o a K Q ((Sem.run Tryz.prog (Instr.makeMap t none) wc).andThen fun v w' => .ok (.value v) w') :=
 upon_made t (.int .i64) fun b w' h1 _ h3 h4 => h b w' (by rw [h1]; exact hK.size) (by rw [← key_none]; exact h3) (hK.trans h4)
end
def startsAt (v : B) (j : Nat) : Bool := j == 0 || (v[j - 1]? == some 32)
theorem starts_succ (v : B) {j : Nat} (h : j < v.length) : startsAt v (j + 1) = (v[j] == 32) := by
 simp [startsAt, List.getElem?_eq_getElem h]
theorem word_next {x v : B} {j : Nat} {r : Bool} (h : wordHit x false (v.drop j) = r) : wordHit x (startsAt v (j + 1)) (v.drop (j + 1)) = r := by
 by_cases hl : j < v.length
 ·rw [List.drop_eq_getElem_cons hl] at h
  rw [starts_succ v hl, ← h]
  simp [wordHit]
 ·rw [List.drop_of_length_le (by omega)] at h ⊢
  exact h
theorem word_step {x v : B} {j : Nat} {r : Bool} (h : wordHit x true (v.drop j) = r) :
  ((!((v.drop j).takeWhile notBlank).isEmpty && (v.drop j).takeWhile notBlank == x) || wordHit x (startsAt v (j + 1)) (v.drop (j + 1))) = r := by
 by_cases hl : j < v.length
 ·rw [List.drop_eq_getElem_cons hl] at h ⊢
  rw [starts_succ v hl, ← h]
  simp [wordHit]
 ·rw [List.drop_of_length_le (by omega)] at h ⊢
  rw [List.drop_of_length_le (by omega)]
  exact h
set_option maxRecDepth 100000 in
set_option maxHeartbeats 3200000 in
theorem rtest_any (w : World) (v : Value) (ns : List PNode) (k : Nat) (hv : NodesAt w v ns) (hk : k < ns.length) (hs : Short ns) (hn0 : ns.length ≤ 1048576) (t : PTest) :
  Calls Tryz.prog 146 #[v, .int .i64 (k : Int), .agg #[.int .i64 t.kind, .string (str t.name), .string (str t.val)]] w fun e w' => e = .returned (.bool (mTest ns k t)) ∧ Kept (fun _ => False) w w' := by
 obtain ⟨r, HR⟩ : ∃ r, Hid (mTest ns k t = r) := ⟨_, rfl⟩
 rw [HR.out]
 obtain ⟨a, cap, rfl, hle, hcap⟩ := hv.form
 unfold maxLen at hcap
 have hx := List.getElem?_eq_getElem hk
 generalize hgx : ns[k] = n at hx
 clear hgx
 obtain ⟨nb, noff, av, rfl, g0, g1, g2, g3, g4, g5, hav⟩ := hv.at hx
 obtain ⟨aa, acap, rfl, hac1, hac2⟩ := hav.form
 unfold maxLen at hac2
 have hR : Hid (mTestN ns k n t = r) := Lib.hid (by rw [← HR.out]; unfold mTest; rw [hx])
 have HGS := Lib.hid (get_short hs (List.mem_of_getElem? hx))
 have HV := Lib.hid hv
 have HX := Lib.hid hx
 obtain ⟨wa, HWA⟩ : ∃ x', Hid (w.alloc (.cells #[.int .i64 t.kind, .string (str t.name), .string (str t.val)] 158 (0, 0)) = x') := ⟨_, rfl⟩
 have ka : Kept (fun _ => False) w wa := by rw [← HWA.out]; exact (Kept.refl _ w).alloc _
 have hh : wa.heap[w.heap.size]? = some (.cells #[.int .i64 t.kind, .string (str t.name), .string (str t.val)] 158 (0, 0)) := by rw [← HWA.out]; exact newIn w _
 have q0 : wa.cell? ⟨w.heap.size, 0, none⟩ = some (.int .i64 t.kind) := cellIn hh 0 rfl
 have q1 : wa.cell? ⟨w.heap.size, 1, none⟩ = some (.string (str t.name)) := cellIn hh 1 rfl
 have q2 : wa.cell? ⟨w.heap.size, 2, none⟩ = some (.string (str t.val)) := cellIn hh 2 rfl
 have n0 : wa.cell? ⟨nb, noff + k * 6, none⟩ = some (.string (str n.name)) := ka.cell id g0
 have n1 := ka.cell id g1
 have n2 := ka.cell id g2
 have n3 := ka.cell id g3
 have n4 := ka.cell id g4
 have n5 := ka.cell id g5
 have hlt : w.heap.size < wa.heap.size := ltIn hh
 have HAV := Lib.hid (RowsAt.below hav ka.below)
 have KA := Lib.hid ka
 clear hx hv hs hh ka hav g0 g1 g2 g3 g4 g5
 go_enter Tryz.func146, Tryz.ntmps146
 go_upto_region 1 with fail
 rw [HWA.out]
 obtain ⟨⟨gv, gb⟩, HG⟩ : ∃ g, Hid (pGet n.attrs (keyOf t) = g) := ⟨_, rfl⟩
 go_cut [7, 8] (fun s h wx => s = .string (str gv) ∧ h = .bool gb ∧ Hid (Kept (fun _ => False) wa wx))
 case first =>
  go_region_held3 (fun w' => w'.cell? ⟨w.heap.size, 0, none⟩ = some (.int .i64 t.kind) ∧ w'.cell? ⟨w.heap.size, 1, none⟩ = some (.string (str t.name)) ∧ w'.cell? ⟨nb, noff + k * 6, none⟩ = some (.string (str n.name)) ∧ w'.cell? ⟨nb, noff + k * 6 + 1, none⟩ = some (.int .i64 n.parent) ∧ w'.cell? ⟨nb, noff + k * 6 + 2, none⟩ = some (.slice aa n.attrs.length acap) ∧ w'.cell? ⟨nb, noff + k * 6 + 3, none⟩ = some (.int .i64 n.nameEnd) ∧ w'.cell? ⟨nb, noff + k * 6 + 4, none⟩ = some (.int .i64 n.inF) ∧ w'.cell? ⟨nb, noff + k * 6 + 5, none⟩ = some (.int .i64 n.inT)) (first | exact ⟨hK.cell id q0, hK.cell id q1, hK.cell id n0, hK.cell id n1, hK.cell id n2, hK.cell id n3, hK.cell id n4, hK.cell id n5⟩ | go_keep)
   ((first
    | (with_reducible refine arm_made (wa := wa) 230 t.name (by first | exact (Kept.refl _ wa).drew | exact Kept.refl _ wa) ?_; intro b1 w1 hb1 hM hK)
    | (with_reducible refine arm_key2 (wa := wa) hM hK hb1 ?_; clear hM hK; intro w1 hM hK)
    | (with_reducible refine arm_key3 (wa := wa) hM hK hb1 ?_; clear hM hK; intro w1 hM hK)
    | (with_reducible refine arm_key4 (wa := wa) hM hK hb1 ?_; clear hM hK; intro w1 hM hK)
    | (with_reducible refine arm_key5 (wa := wa) hM hK hb1 ?_; clear hM hK; intro w1 hM hK)
    | (with_reducible refine upon_look _ (key_look t _ _ hM) ?_)
    | (go_at_call 55; refine (rget_any _ _ n (keyOf t) (by exact RowsAt.below HAV.out hK.below)).mono ?_; rintro e w5 ⟨rfl, hk5⟩; have hK := hK.trans hk5)))
  all_goals
   go_wp2_with fail
   go_meet
   case rel => exact ⟨by rw [HG.out], by rw [HG.out], Lib.hid hK⟩
 case rest =>
  obtain ⟨rfl, rfl, HKX⟩ := hcut
  have c0 := HKX.out.cell id q0
  have c1 := HKX.out.cell id q1
  have c2 := HKX.out.cell id q2
  have m0 := HKX.out.cell id n0
  have HVX := Lib.hid (nodes_firm.kept HV.out (KA.out.trans HKX.out))
  have KX := Lib.hid (KA.out.trans HKX.out)
  clear q0 q1 q2 n0 n1 n2 n3 n4 n5
  by_cases h1 : t.kind = 1
  ·have e1 : (t.kind == 1) = true := by simp [h1]
   have HRR : Hid ((n.name == t.name) = r) := Lib.hid (by rw [← hR.out]; unfold mTestN; rw [if_pos h1])
   clear h1
   go_wp2_with fail
   go_quiet (fail)
   go_wp2_with fail
   go_ret
   exact ⟨retb HRR.out, KX.out.drewN _⟩
  ·have e1 : (t.kind == 1) = false := by simp [h1]
   by_cases h2 : t.kind = 2
   ·have e2 : (t.kind == 2) = true := by simp [h2]
    have HK2 : Hid (keyOf t = className) := Lib.hid (by unfold keyOf; rw [if_pos h2])
    have HRR : Hid (wordHit t.name true gv = r) := Lib.hid (by
     rw [← hR.out, (word_hit t.name gv).1]; unfold mTestN; rw [if_neg h1, if_pos h2]
     have := HG.out
     rw [HK2.out] at this
     rw [this])
    have hgl : gv.length ≤ 1048576 := by have := HGS.out (keyOf t); rw [HG.out] at this; exact this
    clear h1 h2
    go_wp2_with fail
    go_loopw [9] (fun i wr => ∃ j : Nat, j ≤ gv.length + 1 ∧ i = .int .i64 (j : Int) ∧ Hid (Qt wc wr) ∧ Hid (wordHit t.name (startsAt gv j) (gv.drop j) = r)) (fun i _ => gv.length + 1 - (intOf i).toNat)
    case atStart => exact ⟨0, by omega, rfl, Lib.hid (Qt.refl _), HRR⟩
    case round =>
     obtain ⟨j, hj, rfl, HQ, HW⟩ := hrel
     obtain ⟨wr0, hwr0⟩ : ∃ x, x = wr := ⟨_, rfl⟩
     subst hwr0
     by_cases hlast : gv.length < j
     ·have hr : r = false := by
       rw [← HW.out, List.drop_of_length_le (by omega)]; rfl
      go_wp2_with fail
      go_ret
      exact ⟨retb hr.symm, KX.out.trans (HQ.out.kept _)⟩
     ·have hjl : j ≤ gv.length := by omega
      cases hst : startsAt gv j with
      | false =>
       rw [hst] at HW
       cases j with
       | zero => simp [startsAt] at hst
       | succ i =>
        have hil : i < gv.length := by omega
        have hc : ¬ gv[i] = 32 := by
         intro e
         simp [startsAt, List.getElem?_eq_getElem hil, e] at hst
        have hcI : (((gv[i]).toNat : Int) != 32) = true := by
         simp only [bne_iff_ne, ne_eq]
         intro e
         exact hc (UInt8.toNat_inj.1 (by have : (32 : UInt8).toNat = 32 := rfl; omega))
        have hnx := word_next HW.out
        have hi1 : ((i + 1 : Nat) : Int) - 1 = (i : Int) := by omega
        clear hst hc
        go_wp2_with fail
        go_roundw
        case measure => simp [intOf]; omega
        case rel => exact ⟨i + 1 + 1, by omega, by go_num, HQ, Lib.hid hnx⟩
      | true =>
       rw [hst] at HW
       have hcase : Hid (j = 0) ∨ ∃ i, Hid (j = i + 1) ∧ ∃ h : i < gv.length, (((gv[i]).toNat : Int) != 32) = false := by
        cases j with
        | zero => exact .inl (Lib.hid rfl)
        | succ i =>
         have hil : i < gv.length := by omega
         refine .inr ⟨i, Lib.hid rfl, hil, ?_⟩
         have : gv[i] = 32 := by simpa [startsAt, List.getElem?_eq_getElem hil] using hst
         rw [this]; rfl
       clear hst
       rcases hcase with HJ0 | ⟨i, HJ0, hil, hcI⟩
       ·have d0 : decide ((0 : Int) < (j : Int)) = false := by have := HJ0.out; simp; omega
        have d0' : ¬ 0 < j := by have := HJ0.out; omega
        have d0'' : (0 < j) = False := by simp; exact HJ0.out
        go_wp2_with fail
        go_loopw [10] (fun e ws => ∃ m : Nat, j ≤ m ∧ m ≤ gv.length ∧ e = .int .i64 (m : Int) ∧ Hid (Qt wc ws) ∧ Hid ((gv.drop j).takeWhile notBlank = (gv.drop j).take (m - j) ++ (gv.drop m).takeWhile notBlank)) (fun e _ => gv.length - (intOf e).toNat)
        case atStart => exact ⟨j, by omega, hjl, rfl, HQ, Lib.hid (by simp)⟩
        case round =>
         obtain ⟨m, hm1, hm2, rfl, HQ2, hT⟩ := hrel
         by_cases hml : m < gv.length
         ·have hd := List.drop_eq_getElem_cons hml
          by_cases hc : gv[m] = 32
          ·have hcI2 : (((gv[m]).toNat : Int) != 32) = false := by rw [hc]; rfl
           have hend : (gv.drop m).takeWhile notBlank = [] := by rw [hd, hc]; rfl
           clear hd hc
           have c1' := (HQ2.out.kept (fun _ => False)).cell id c1
           have hword : (gv.drop j).takeWhile notBlank = (gv.drop j).take (m - j) := by rw [hT.out, hend, List.append_nil]
           have hstep := word_step HW.out
           rw [hword] at hstep
           by_cases hjm : j < m
           ·have hne : ((gv.drop j).take (m - j)).isEmpty = false := by
             rw [List.isEmpty_eq_false_iff]
             intro e
             have := congrArg List.length e
             simp at this
             omega
            rw [hne] at hstep
            have d1 : decide ((j : Int) < (m : Int)) = true := by simp; omega
            have d2 : decide (j < m) = true := by simp; omega
            have d3 : ((j : Int) < (m : Int)) = True := by simp; omega
            have d4 : (j < m) = True := by simp; omega
            have b1 : (0 : Int) ≤ (j : Int) := by omega
            have b2 : (j : Int) ≤ (m : Int) := by omega
            have b3 : (m : Int) ≤ (gv.length : Int) := by omega
            have b4 : j ≤ m := by omega
            cases hq : ((gv.drop j).take (m - j) == t.name) with
            | true =>
             rw [hq] at hstep
             have hr : Hid (true = r) := Lib.hid (by rw [← hstep]; simp)
             clear hend hword hstep hne hjm
             go_wp2_with fail
             go_quiet (fail)
             go_wp2_with fail
             go_ret
             exact ⟨retb hr.out, (KX.out.trans (HQ2.out.kept _)).drewN _⟩
            | false =>
             rw [hq] at hstep
             have hr : Hid (wordHit t.name (startsAt gv (j + 1)) (gv.drop (j + 1)) = r) := Lib.hid (by rw [← hstep]; simp)
             clear hend hword hstep hne hjm
             go_wp2_with fail
             go_quiet (fail)
             go_wp2_with fail
             go_roundw
             case measure => simp [intOf]; omega
             case rel => exact ⟨j + 1, by omega, by go_num, Lib.hid (HQ2.out.trans ⟨nq, rfl⟩), hr⟩
           ·have hmj : m = j := by omega
            have d1 : decide ((j : Int) < (m : Int)) = false := by simp; omega
            have d2 : decide (j < m) = false := by simp; omega
            have d3 : ((j : Int) < (m : Int)) = False := by simp; omega
            have d4 : (j < m) = False := by simp; omega
            have hne : (gv.drop j).take (m - j) = [] := by rw [hmj]; simp
            rw [hne] at hstep
            have hr : Hid (wordHit t.name (startsAt gv (j + 1)) (gv.drop (j + 1)) = r) := Lib.hid (by rw [← hstep]; simp)
            clear hend hword hstep hne hjm hmj
            go_wp2_with fail
            go_quiet (fail)
            go_wp2_with fail
            go_roundw
            case measure => simp [intOf]; omega
            case rel => exact ⟨j + 1, by omega, by go_num, Lib.hid (HQ2.out.trans ⟨nq, rfl⟩), hr⟩
          ·have hcI2 : (((gv[m]).toNat : Int) != 32) = true := by
            simp only [bne_iff_ne, ne_eq]
            intro e
            exact hc (UInt8.toNat_inj.1 (by have : (32 : UInt8).toNat = 32 := rfl; omega))
           have hnx : Hid ((gv.drop j).takeWhile notBlank = (gv.drop j).take (m + 1 - j) ++ (gv.drop (m + 1)).takeWhile notBlank) := Lib.hid (by
            have hb : notBlank gv[m] = true := by simp [notBlank, hc]
            rw [hT.out, hd, List.takeWhile_cons, if_pos hb, show m + 1 - j = (m - j) + 1 from by omega, List.take_add_one]
            have : (gv.drop j)[m - j]? = some gv[m] := by rw [List.getElem?_drop, show j + (m - j) = m from by omega, List.getElem?_eq_getElem hml]
            rw [this]
            simp)
           clear hd hc
           go_wp2_with fail
           go_roundw
           case measure => simp [intOf]; omega
           case rel => exact ⟨m + 1, by omega, by omega, by go_num, HQ2, hnx⟩
         ·have hend : (gv.drop m).takeWhile notBlank = [] := by rw [List.drop_of_length_le (by omega)]; rfl
          have hmy : m = gv.length := by omega
          have hmx : (m < gv.length) = False := by simp; omega
          have c1' := (HQ2.out.kept (fun _ => False)).cell id c1
          have hword : (gv.drop j).takeWhile notBlank = (gv.drop j).take (m - j) := by rw [hT.out, hend, List.append_nil]
          have hstep := word_step HW.out
          rw [hword] at hstep
          by_cases hjm : j < m
          ·have hne : ((gv.drop j).take (m - j)).isEmpty = false := by
            rw [List.isEmpty_eq_false_iff]
            intro e
            have := congrArg List.length e
            simp at this
            omega
           rw [hne] at hstep
           have d1 : decide ((j : Int) < (m : Int)) = true := by simp; omega
           have d2 : decide (j < m) = true := by simp; omega
           have d3 : ((j : Int) < (m : Int)) = True := by simp; omega
           have d4 : (j < m) = True := by simp; omega
           have b1 : (0 : Int) ≤ (j : Int) := by omega
           have b2 : (j : Int) ≤ (m : Int) := by omega
           have b3 : (m : Int) ≤ (gv.length : Int) := by omega
           have b4 : j ≤ m := by omega
           cases hq : ((gv.drop j).take (m - j) == t.name) with
           | true =>
            rw [hq] at hstep
            have hr : Hid (true = r) := Lib.hid (by rw [← hstep]; simp)
            clear hend hword hstep hne hjm hmy
            go_wp2_with fail
            go_quiet (fail)
            go_wp2_with fail
            go_ret
            exact ⟨retb hr.out, (KX.out.trans (HQ2.out.kept _)).drewN _⟩
           | false =>
            rw [hq] at hstep
            have hr : Hid (wordHit t.name (startsAt gv (j + 1)) (gv.drop (j + 1)) = r) := Lib.hid (by rw [← hstep]; simp)
            clear hend hword hstep hne hjm hmy
            go_wp2_with fail
            go_quiet (fail)
            go_wp2_with fail
            go_roundw
            case measure => simp [intOf]; omega
            case rel => exact ⟨j + 1, by omega, by go_num, Lib.hid (HQ2.out.trans ⟨nq, rfl⟩), hr⟩
          ·have hmj : m = j := by omega
           have d1 : decide ((j : Int) < (m : Int)) = false := by simp; omega
           have d2 : decide (j < m) = false := by simp; omega
           have d3 : ((j : Int) < (m : Int)) = False := by simp; omega
           have d4 : (j < m) = False := by simp; omega
           have hne : (gv.drop j).take (m - j) = [] := by rw [hmj]; simp
           rw [hne] at hstep
           have hr : Hid (wordHit t.name (startsAt gv (j + 1)) (gv.drop (j + 1)) = r) := Lib.hid (by rw [← hstep]; simp)
           clear hend hword hstep hne hjm hmj hmy
           go_wp2_with fail
           go_quiet (fail)
           go_wp2_with fail
           go_roundw
           case measure => simp [intOf]; omega
           case rel => exact ⟨j + 1, by omega, by go_num, Lib.hid (HQ2.out.trans ⟨nq, rfl⟩), hr⟩
       ·have d0 : decide ((0 : Int) < (j : Int)) = true := by have := HJ0.out; simp; omega
        have hi1 : (j : Int) - 1 = (i : Int) := by have := HJ0.out; omega
        go_wp2_with fail
        go_loopw [10] (fun e ws => ∃ m : Nat, j ≤ m ∧ m ≤ gv.length ∧ e = .int .i64 (m : Int) ∧ Hid (Qt wc ws) ∧ Hid ((gv.drop j).takeWhile notBlank = (gv.drop j).take (m - j) ++ (gv.drop m).takeWhile notBlank)) (fun e _ => gv.length - (intOf e).toNat)
        case atStart => exact ⟨j, by omega, hjl, rfl, HQ, Lib.hid (by simp)⟩
        case round =>
         obtain ⟨m, hm1, hm2, rfl, HQ2, hT⟩ := hrel
         by_cases hml : m < gv.length
         ·have hd := List.drop_eq_getElem_cons hml
          by_cases hc : gv[m] = 32
          ·have hcI2 : (((gv[m]).toNat : Int) != 32) = false := by rw [hc]; rfl
           have hend : (gv.drop m).takeWhile notBlank = [] := by rw [hd, hc]; rfl
           clear hd hc
           have c1' := (HQ2.out.kept (fun _ => False)).cell id c1
           have hword : (gv.drop j).takeWhile notBlank = (gv.drop j).take (m - j) := by rw [hT.out, hend, List.append_nil]
           have hstep := word_step HW.out
           rw [hword] at hstep
           by_cases hjm : j < m
           ·have hne : ((gv.drop j).take (m - j)).isEmpty = false := by
             rw [List.isEmpty_eq_false_iff]
             intro e
             have := congrArg List.length e
             simp at this
             omega
            rw [hne] at hstep
            have d1 : decide ((j : Int) < (m : Int)) = true := by simp; omega
            have d2 : decide (j < m) = true := by simp; omega
            have d3 : ((j : Int) < (m : Int)) = True := by simp; omega
            have d4 : (j < m) = True := by simp; omega
            have b1 : (0 : Int) ≤ (j : Int) := by omega
            have b2 : (j : Int) ≤ (m : Int) := by omega
            have b3 : (m : Int) ≤ (gv.length : Int) := by omega
            have b4 : j ≤ m := by omega
            cases hq : ((gv.drop j).take (m - j) == t.name) with
            | true =>
             rw [hq] at hstep
             have hr : Hid (true = r) := Lib.hid (by rw [← hstep]; simp)
             clear hend hword hstep hne hjm
             go_wp2_with fail
             go_quiet (fail)
             go_wp2_with fail
             go_ret
             exact ⟨retb hr.out, (KX.out.trans (HQ2.out.kept _)).drewN _⟩
            | false =>
             rw [hq] at hstep
             have hr : Hid (wordHit t.name (startsAt gv (j + 1)) (gv.drop (j + 1)) = r) := Lib.hid (by rw [← hstep]; simp)
             clear hend hword hstep hne hjm
             go_wp2_with fail
             go_quiet (fail)
             go_wp2_with fail
             go_roundw
             case measure => simp [intOf]; omega
             case rel => exact ⟨j + 1, by omega, by go_num, Lib.hid (HQ2.out.trans ⟨nq, rfl⟩), hr⟩
           ·have hmj : m = j := by omega
            have d1 : decide ((j : Int) < (m : Int)) = false := by simp; omega
            have d2 : decide (j < m) = false := by simp; omega
            have d3 : ((j : Int) < (m : Int)) = False := by simp; omega
            have d4 : (j < m) = False := by simp; omega
            have hne : (gv.drop j).take (m - j) = [] := by rw [hmj]; simp
            rw [hne] at hstep
            have hr : Hid (wordHit t.name (startsAt gv (j + 1)) (gv.drop (j + 1)) = r) := Lib.hid (by rw [← hstep]; simp)
            clear hend hword hstep hne hjm hmj
            go_wp2_with fail
            go_quiet (fail)
            go_wp2_with fail
            go_roundw
            case measure => simp [intOf]; omega
            case rel => exact ⟨j + 1, by omega, by go_num, Lib.hid (HQ2.out.trans ⟨nq, rfl⟩), hr⟩
          ·have hcI2 : (((gv[m]).toNat : Int) != 32) = true := by
            simp only [bne_iff_ne, ne_eq]
            intro e
            exact hc (UInt8.toNat_inj.1 (by have : (32 : UInt8).toNat = 32 := rfl; omega))
           have hnx : Hid ((gv.drop j).takeWhile notBlank = (gv.drop j).take (m + 1 - j) ++ (gv.drop (m + 1)).takeWhile notBlank) := Lib.hid (by
            have hb : notBlank gv[m] = true := by simp [notBlank, hc]
            rw [hT.out, hd, List.takeWhile_cons, if_pos hb, show m + 1 - j = (m - j) + 1 from by omega, List.take_add_one]
            have : (gv.drop j)[m - j]? = some gv[m] := by rw [List.getElem?_drop, show j + (m - j) = m from by omega, List.getElem?_eq_getElem hml]
            rw [this]
            simp)
           clear hd hc
           go_wp2_with fail
           go_roundw
           case measure => simp [intOf]; omega
           case rel => exact ⟨m + 1, by omega, by omega, by go_num, HQ2, hnx⟩
         ·have hend : (gv.drop m).takeWhile notBlank = [] := by rw [List.drop_of_length_le (by omega)]; rfl
          have hmy : m = gv.length := by omega
          have hmx : (m < gv.length) = False := by simp; omega
          have c1' := (HQ2.out.kept (fun _ => False)).cell id c1
          have hword : (gv.drop j).takeWhile notBlank = (gv.drop j).take (m - j) := by rw [hT.out, hend, List.append_nil]
          have hstep := word_step HW.out
          rw [hword] at hstep
          by_cases hjm : j < m
          ·have hne : ((gv.drop j).take (m - j)).isEmpty = false := by
            rw [List.isEmpty_eq_false_iff]
            intro e
            have := congrArg List.length e
            simp at this
            omega
           rw [hne] at hstep
           have d1 : decide ((j : Int) < (m : Int)) = true := by simp; omega
           have d2 : decide (j < m) = true := by simp; omega
           have d3 : ((j : Int) < (m : Int)) = True := by simp; omega
           have d4 : (j < m) = True := by simp; omega
           have b1 : (0 : Int) ≤ (j : Int) := by omega
           have b2 : (j : Int) ≤ (m : Int) := by omega
           have b3 : (m : Int) ≤ (gv.length : Int) := by omega
           have b4 : j ≤ m := by omega
           cases hq : ((gv.drop j).take (m - j) == t.name) with
           | true =>
            rw [hq] at hstep
            have hr : Hid (true = r) := Lib.hid (by rw [← hstep]; simp)
            clear hend hword hstep hne hjm hmy
            go_wp2_with fail
            go_quiet (fail)
            go_wp2_with fail
            go_ret
            exact ⟨retb hr.out, (KX.out.trans (HQ2.out.kept _)).drewN _⟩
           | false =>
            rw [hq] at hstep
            have hr : Hid (wordHit t.name (startsAt gv (j + 1)) (gv.drop (j + 1)) = r) := Lib.hid (by rw [← hstep]; simp)
            clear hend hword hstep hne hjm hmy
            go_wp2_with fail
            go_quiet (fail)
            go_wp2_with fail
            go_roundw
            case measure => simp [intOf]; omega
            case rel => exact ⟨j + 1, by omega, by go_num, Lib.hid (HQ2.out.trans ⟨nq, rfl⟩), hr⟩
          ·have hmj : m = j := by omega
           have d1 : decide ((j : Int) < (m : Int)) = false := by simp; omega
           have d2 : decide (j < m) = false := by simp; omega
           have d3 : ((j : Int) < (m : Int)) = False := by simp; omega
           have d4 : (j < m) = False := by simp; omega
           have hne : (gv.drop j).take (m - j) = [] := by rw [hmj]; simp
           rw [hne] at hstep
           have hr : Hid (wordHit t.name (startsAt gv (j + 1)) (gv.drop (j + 1)) = r) := Lib.hid (by rw [← hstep]; simp)
           clear hend hword hstep hne hjm hmj hmy
           go_wp2_with fail
           go_quiet (fail)
           go_wp2_with fail
           go_roundw
           case measure => simp [intOf]; omega
           case rel => exact ⟨j + 1, by omega, by go_num, Lib.hid (HQ2.out.trans ⟨nq, rfl⟩), hr⟩
   ·have e2 : (t.kind == 2) = false := by simp [h2]
    by_cases h3 : t.kind = 3
    ·have e3 : (t.kind == 3) = true := by simp [h3]
     have HK2 : keyOf t = idName := by unfold keyOf; rw [if_neg h2, if_pos h3]
     have HRR : Hid ((gb && gv == t.name) = r) := Lib.hid (by
      rw [← hR.out]; unfold mTestN; rw [if_neg h1, if_neg h2, if_pos h3, ← HK2, HG.out])
     clear h1 h2 h3 HK2
     cases gb with
     | true =>
      go_wp2_with fail
      go_ret
      exact ⟨retb HRR.out, KX.out⟩
     | false =>
      go_wp2_with fail
      go_ret
      exact ⟨retb HRR.out, KX.out⟩
    ·have e3 : (t.kind == 3) = false := by simp [h3]
     by_cases h4 : t.kind = 4
     ·have e4 : (t.kind == 4) = true := by simp [h4]
      have HK2 : keyOf t = t.name := by unfold keyOf; rw [if_neg h2, if_neg h3, if_pos (.inl h4)]
      have HRR : Hid (gb = r) := Lib.hid (by
       rw [← hR.out]; unfold mTestN; rw [if_neg h1, if_neg h2, if_neg h3, if_pos h4, ← HK2, HG.out])
      clear h1 h2 h3 h4 HK2
      go_wp2_with fail
      go_ret
      exact ⟨retb HRR.out, KX.out⟩
     ·have e4 : (t.kind == 4) = false := by simp [h4]
      by_cases h5 : t.kind = 5
      ·have e5 : (t.kind == 5) = true := by simp [h5]
       have HK2 : keyOf t = t.name := by unfold keyOf; rw [if_neg h2, if_neg h3, if_pos (.inr h5)]
       have HRR : Hid ((gb && gv == t.val) = r) := Lib.hid (by
        rw [← hR.out]; unfold mTestN; rw [if_neg h1, if_neg h2, if_neg h3, if_neg h4, if_pos h5, ← HK2, HG.out])
       clear h1 h2 h3 h4 h5 HK2
       cases gb with
       | true =>
        go_wp2_with fail
        go_ret
        exact ⟨retb HRR.out, KX.out⟩
       | false =>
        go_wp2_with fail
        go_ret
        exact ⟨retb HRR.out, KX.out⟩
      ·have e5 : (t.kind == 5) = false := by simp [h5]
       by_cases h6 : t.kind = 6
       ·have e6 : (t.kind == 6) = true := by simp [h6]
        have HRR : Hid (decide (pAhead ns (k : Int) < 0) = r) := Lib.hid (by rw [← hR.out]; unfold mTestN; rw [if_neg h1, if_neg h2, if_neg h3, if_neg h4, if_neg h5, if_pos h6])
        clear h1 h2 h3 h4 h5 h6
        have hkk : -9223372036854775808 ≤ (k : Int) ∧ (k : Int) ≤ 9223372036854775807 := by omega
        have HKK := Lib.hid hkk
        go_wp2_with (go_at_call 147; refine (rahead_any _ _ ns (k : Int) HVX.out HKK.out).mono ?_; rintro e w5 ⟨rfl, hq5⟩)
        go_ret
        exact ⟨retb (by rw [← HRR.out]), KX.out.trans (hq5.kept _)⟩
       ·have e6 : (t.kind == 6) = false := by simp [h6]
        have HRR : Hid (false = r) := Lib.hid (by rw [← hR.out]; unfold mTestN; rw [if_neg h1, if_neg h2, if_neg h3, if_neg h4, if_neg h5, if_neg h6])
        clear h1 h2 h3 h4 h5 h6
        go_wp2_with fail
        go_ret
        exact ⟨retb HRR.out, KX.out⟩
theorem mAt_out {ns : List PNode} {ps : List PPart} {k : Int} (h : inR ns k = false) : mAt ns ps k = false := by
 cases hm : mAt ns ps k with
 | false => rfl
 | true => rw [mAt_inR hm] at h; cases h
theorem ahead_in (ns : List PNode) (k : Int) : pAhead ns k < (ns.length : Int) := by
 have hl : ∀ (p : Int) (j : Nat), j ≤ ns.length → lastWith ns p j < (ns.length : Int) ∨ lastWith ns p j = -1 := by
  intro p j
  induction j with
  | zero => intro _; exact .inr rfl
  | succ j ih =>
   intro hj
   unfold lastWith
   split
   ·exact .inl (by omega)
   ·exact ih (by omega)
 unfold pAhead
 split
 ·omega
 ·rename_i h0
  split
  ·rename_i n hn
   rcases hl n.parent k.toNat (by omega) with h | h <;> omega
  ·omega
set_option maxRecDepth 100000 in
set_option maxHeartbeats 3200000 in
theorem rmeans_any (ns : List PNode) (hns : MtCtx ns) (s : PSel) : ∀ (n : Nat), n < s.length → ∀ (w : World) (v sv : Value) (k : Nat), k < ns.length → NodesAt w v ns → PartsAt w sv s →
  Calls Tryz.prog 99 #[v, .int .i64 (k : Int), sv, .int .i64 (n : Int)] w (AtEnds w (mAt ns (s.take (n + 1)).reverse (k : Int))) := by
 intro n
 induction n with
 | zero =>
  intro hnl w v sv k hkl hv hp
  obtain ⟨n, HNN⟩ : ∃ n : Nat, Hid (0 = n) := ⟨_, rfl⟩
  rw [HNN.out] at hnl ⊢
  obtain ⟨p, hpp⟩ : ∃ p, s[n]? = some p := ⟨_, List.getElem?_eq_getElem hnl⟩
  obtain ⟨q, HQ⟩ : ∃ q, Hid (mAt ns (s.take n).reverse = q) := ⟨_, rfl⟩
  obtain ⟨r, HR⟩ : ∃ r, Hid (mAt ns (s.take (n + 1)).reverse (k : Int) = r) := ⟨_, rfl⟩
  have hin : inR ns (k : Int) = true := by simp [inR]; omega
  have hR : Hid ((mPart ns k p && ((s.take n).reverse.isEmpty || mJoin ns p.join q k)) = r) := Lib.hid (by
   rw [← HR.out, rev_take (n := n + 1) (p := p) (by omega) (by rw [Nat.add_sub_cancel]; exact hpp), Nat.add_sub_cancel, mAt, HQ.out, hin, Int.toNat_natCast]; simp)
  rw [HR.out]
  obtain ⟨na, ncap, rfl, hnc1, hnc2⟩ := hv.form
  obtain ⟨pa, pcap, rfl, hpc1, hpc2⟩ := NestAt.form hp
  unfold maxLen at hnc2 hpc2
  obtain ⟨pb, po, tv, rfl, hpc, hpt⟩ := NestAt.at hp hpp
  have pj : w.cell? ⟨pb, po + n * 2, none⟩ = some (.int .i64 p.join) := hpc 0 _ rfl
  have pt : w.cell? ⟨pb, po + n * 2 + 1, none⟩ = some tv := hpc 1 _ rfl
  obtain ⟨ta, tc, rfl, htc1, htc2⟩ := TestsAt.form hpt
  unfold maxLen at htc2
  have HT := Lib.hid hpt
  have HV := Lib.hid hv
  have HP := Lib.hid hp
  have PJ := Lib.hid pj
  have hfew := hns.few
  clear hv hp hpp hpc hpt hin pj
  go_enter Tryz.func99, Tryz.ntmps99
  go_upto_block 0 with fail
  go_cut [] (fun wx => Hid (Kept (fun _ => False) w wx) ∧ Hid (mPart ns k p = true))
  case first =>
   go_wp2_with fail
   go_loopw [20] (fun i wr => ∃ j : Nat, j ≤ p.tests.length ∧ i = .int .i64 j ∧ Hid (Kept (fun _ => False) w wr) ∧ Hid ((p.tests.take j).all (mTest ns k) = true)) (fun i _ => p.tests.length - (intOf i).toNat)
   case atStart => exact ⟨0, by omega, rfl, Lib.hid (Kept.refl _ _), Lib.hid rfl⟩
   case round =>
    obtain ⟨j, hj, rfl, HK, HJ⟩ := hrel
    obtain ⟨wr0, hwr0⟩ : ∃ x, x = wr := ⟨_, rfl⟩
    subst hwr0
    by_cases hlt : j < p.tests.length
    ·have hx := List.getElem?_eq_getElem hlt
     generalize hgx : p.tests[j] = t at hx
     clear hgx
     obtain ⟨tb, to_, rfl, t0, t1, t2⟩ := TestsAt.at (tests_firm.kept HT.out HK.out) hx
     have HX := Lib.hid hx
     clear hx
     go_upto_region 4 with fail
     obtain ⟨wa, HWA⟩ : ∃ x', Hid (wr0.alloc (.cells #[.int .i64 t.kind, .string (str t.name), .string (str t.val)] 158 (0, 0)) = x') := ⟨_, rfl⟩
     have ka : Kept (fun _ => False) wr0 wa := by rw [← HWA.out]; exact (Kept.refl _ wr0).alloc _
     have hh : wa.heap[wr0.heap.size]? = some (.cells #[.int .i64 t.kind, .string (str t.name), .string (str t.val)] 158 (0, 0)) := by rw [← HWA.out]; exact newIn wr0 _
     have d0 : wa.cell? ⟨wr0.heap.size, 0, none⟩ = some (.int .i64 t.kind) := cellIn hh 0 rfl
     have d1 : wa.cell? ⟨wr0.heap.size, 1, none⟩ = some (.string (str t.name)) := cellIn hh 1 rfl
     have d2 : wa.cell? ⟨wr0.heap.size, 2, none⟩ = some (.string (str t.val)) := cellIn hh 2 rfl
     have KA := Lib.hid (HK.out.trans ka)
     rw [HWA.out]
     have HTS := rtest_any wa _ ns k (nodes_firm.kept HV.out KA.out) hkl hns.short hns.few t
     clear t0 t1 t2 ka hh
     cases htst : mTest ns k t with
     | false =>
      rw [htst] at HTS
      have HTS := Lib.hid HTS
      have hr : Hid (false = r) := Lib.hid (by
       rw [← hR.out]
       have : mPart ns k p = false := by
        unfold mPart
        rw [List.all_eq_false]
        exact ⟨t, List.mem_of_getElem? HX.out, by simp [htst]⟩
       rw [this]; rfl)
      clear htst
      go_wp2_with (go_at_call 146; refine HTS.out.mono ?_; rintro e w2 ⟨rfl, hk2⟩)
      go_ret
      exact ⟨retb hr.out, KA.out.trans hk2⟩
     | true =>
      rw [htst] at HTS
      have HTS := Lib.hid HTS
      have HTT := Lib.hid htst
      clear htst
      go_wp2_with (go_at_call 146; refine HTS.out.mono ?_; rintro e w2 ⟨rfl, hk2⟩)
      go_roundw
      case measure => simp [intOf]; omega
      case rel =>
       refine ⟨j + 1, by omega, by go_num, Lib.hid (KA.out.trans hk2), Lib.hid ?_⟩
       rw [List.take_add_one, HX.out, Option.toList_some, List.all_append, HJ.out]
       simp [HTT.out]
    ·obtain rfl : j = p.tests.length := by omega
     have hall : Hid (mPart ns k p = true) := Lib.hid (by have := HJ.out; rw [List.take_length] at this; exact this)
     go_wp2_with fail
     go_meet
     case rel => exact ⟨HK, hall⟩
  case rest =>
   obtain ⟨HK2, HALL⟩ := hcut
   have hR2 : Hid (((s.take n).reverse.isEmpty || mJoin ns p.join q k) = r) := Lib.hid (by rw [← hR.out, HALL.out]; simp)
   have pj2 := HK2.out.cell id PJ.out
   have HV2 := Lib.hid (nodes_firm.kept HV.out HK2.out)
   have HP2 := Lib.hid (parts_firm.kept HP.out HK2.out)
   have hr : Hid (true = r) := Lib.hid (by rw [← hR2.out, ← HNN.out]; rfl)
   have g : ((n : Int) == 0) = true := by have := HNN.out; simp; omega
   go_wp2_with fail
   go_ret
   exact ⟨retb hr.out, HK2.out⟩
 | succ n0 ih =>
  have IH := Lib.hid ih
  clear ih
  intro hnl w v sv k hkl hv hp
  obtain ⟨n, HNN⟩ : ∃ n : Nat, Hid (n0 + 1 = n) := ⟨_, rfl⟩
  rw [HNN.out] at hnl ⊢
  obtain ⟨p, hpp⟩ : ∃ p, s[n]? = some p := ⟨_, List.getElem?_eq_getElem hnl⟩
  obtain ⟨q, HQ⟩ : ∃ q, Hid (mAt ns (s.take n).reverse = q) := ⟨_, rfl⟩
  obtain ⟨r, HR⟩ : ∃ r, Hid (mAt ns (s.take (n + 1)).reverse (k : Int) = r) := ⟨_, rfl⟩
  have hin : inR ns (k : Int) = true := by simp [inR]; omega
  have hR : Hid ((mPart ns k p && ((s.take n).reverse.isEmpty || mJoin ns p.join q k)) = r) := Lib.hid (by
   rw [← HR.out, rev_take (n := n + 1) (p := p) (by omega) (by rw [Nat.add_sub_cancel]; exact hpp), Nat.add_sub_cancel, mAt, HQ.out, hin, Int.toNat_natCast]; simp)
  rw [HR.out]
  obtain ⟨na, ncap, rfl, hnc1, hnc2⟩ := hv.form
  obtain ⟨pa, pcap, rfl, hpc1, hpc2⟩ := NestAt.form hp
  unfold maxLen at hnc2 hpc2
  obtain ⟨pb, po, tv, rfl, hpc, hpt⟩ := NestAt.at hp hpp
  have pj : w.cell? ⟨pb, po + n * 2, none⟩ = some (.int .i64 p.join) := hpc 0 _ rfl
  have pt : w.cell? ⟨pb, po + n * 2 + 1, none⟩ = some tv := hpc 1 _ rfl
  obtain ⟨ta, tc, rfl, htc1, htc2⟩ := TestsAt.form hpt
  unfold maxLen at htc2
  have HT := Lib.hid hpt
  have HV := Lib.hid hv
  have HP := Lib.hid hp
  have PJ := Lib.hid pj
  have hfew := hns.few
  clear hv hp hpp hpc hpt hin pj
  go_enter Tryz.func99, Tryz.ntmps99
  go_upto_block 0 with fail
  go_cut [] (fun wx => Hid (Kept (fun _ => False) w wx) ∧ Hid (mPart ns k p = true))
  case first =>
   go_wp2_with fail
   go_loopw [20] (fun i wr => ∃ j : Nat, j ≤ p.tests.length ∧ i = .int .i64 j ∧ Hid (Kept (fun _ => False) w wr) ∧ Hid ((p.tests.take j).all (mTest ns k) = true)) (fun i _ => p.tests.length - (intOf i).toNat)
   case atStart => exact ⟨0, by omega, rfl, Lib.hid (Kept.refl _ _), Lib.hid rfl⟩
   case round =>
    obtain ⟨j, hj, rfl, HK, HJ⟩ := hrel
    obtain ⟨wr0, hwr0⟩ : ∃ x, x = wr := ⟨_, rfl⟩
    subst hwr0
    by_cases hlt : j < p.tests.length
    ·have hx := List.getElem?_eq_getElem hlt
     generalize hgx : p.tests[j] = t at hx
     clear hgx
     obtain ⟨tb, to_, rfl, t0, t1, t2⟩ := TestsAt.at (tests_firm.kept HT.out HK.out) hx
     have HX := Lib.hid hx
     clear hx
     go_upto_region 4 with fail
     obtain ⟨wa, HWA⟩ : ∃ x', Hid (wr0.alloc (.cells #[.int .i64 t.kind, .string (str t.name), .string (str t.val)] 158 (0, 0)) = x') := ⟨_, rfl⟩
     have ka : Kept (fun _ => False) wr0 wa := by rw [← HWA.out]; exact (Kept.refl _ wr0).alloc _
     have hh : wa.heap[wr0.heap.size]? = some (.cells #[.int .i64 t.kind, .string (str t.name), .string (str t.val)] 158 (0, 0)) := by rw [← HWA.out]; exact newIn wr0 _
     have d0 : wa.cell? ⟨wr0.heap.size, 0, none⟩ = some (.int .i64 t.kind) := cellIn hh 0 rfl
     have d1 : wa.cell? ⟨wr0.heap.size, 1, none⟩ = some (.string (str t.name)) := cellIn hh 1 rfl
     have d2 : wa.cell? ⟨wr0.heap.size, 2, none⟩ = some (.string (str t.val)) := cellIn hh 2 rfl
     have KA := Lib.hid (HK.out.trans ka)
     rw [HWA.out]
     have HTS := rtest_any wa _ ns k (nodes_firm.kept HV.out KA.out) hkl hns.short hns.few t
     clear t0 t1 t2 ka hh
     cases htst : mTest ns k t with
     | false =>
      rw [htst] at HTS
      have HTS := Lib.hid HTS
      have hr : Hid (false = r) := Lib.hid (by
       rw [← hR.out]
       have : mPart ns k p = false := by
        unfold mPart
        rw [List.all_eq_false]
        exact ⟨t, List.mem_of_getElem? HX.out, by simp [htst]⟩
       rw [this]; rfl)
      clear htst
      go_wp2_with (go_at_call 146; refine HTS.out.mono ?_; rintro e w2 ⟨rfl, hk2⟩)
      go_ret
      exact ⟨retb hr.out, KA.out.trans hk2⟩
     | true =>
      rw [htst] at HTS
      have HTS := Lib.hid HTS
      have HTT := Lib.hid htst
      clear htst
      go_wp2_with (go_at_call 146; refine HTS.out.mono ?_; rintro e w2 ⟨rfl, hk2⟩)
      go_roundw
      case measure => simp [intOf]; omega
      case rel =>
       refine ⟨j + 1, by omega, by go_num, Lib.hid (KA.out.trans hk2), Lib.hid ?_⟩
       rw [List.take_add_one, HX.out, Option.toList_some, List.all_append, HJ.out]
       simp [HTT.out]
    ·obtain rfl : j = p.tests.length := by omega
     have hall : Hid (mPart ns k p = true) := Lib.hid (by have := HJ.out; rw [List.take_length] at this; exact this)
     go_wp2_with fail
     go_meet
     case rel => exact ⟨HK, hall⟩
  case rest =>
   obtain ⟨HK2, HALL⟩ := hcut
   have hR2 : Hid (((s.take n).reverse.isEmpty || mJoin ns p.join q k) = r) := Lib.hid (by rw [← hR.out, HALL.out]; simp)
   have pj2 := HK2.out.cell id PJ.out
   have HV2 := Lib.hid (nodes_firm.kept HV.out HK2.out)
   have HP2 := Lib.hid (parts_firm.kept HP.out HK2.out)
   have g : ((n : Int) == 0) = false := by have := HNN.out; simp; omega
   have hne : (s.take n).reverse.isEmpty = false := by
    rw [List.isEmpty_eq_false_iff]
    intro h
    have h2 : (s.take n).reverse.length = n := by rw [List.length_reverse, List.length_take]; omega
    rw [h] at h2
    have := HNN.out
    simp at h2; omega
   have hR3 : Hid (mJoin ns p.join q k = r) := Lib.hid (by rw [← hR2.out, hne]; simp)
   have IH2 : Hid (∀ (w : World) (k : Nat), k < ns.length → NodesAt w (.slice na ns.length ncap) ns → PartsAt w (.slice (some ⟨pb, po, none⟩) (List.length s) pcap) s →
     Calls Tryz.prog 99 #[.slice na ns.length ncap, .int .i64 (k : Int), .slice (some ⟨pb, po, none⟩) (List.length s) pcap, .int .i64 ((n : Int) - 1)] w (AtEnds w (q (k : Int)))) := Lib.hid (by
    intro w k h0 h1 h2
    have := IH.out (by have := HNN.out; omega) w _ _ k h0 h1 h2
    rw [show n0 + 1 = n from HNN.out, HQ.out] at this
    rw [show (n : Int) - 1 = (n0 : Int) from by have := HNN.out; omega]; exact this)
   have hx := List.getElem?_eq_getElem hkl
   generalize hgx : ns[k] = x at hx
   clear hgx
   have HX := Lib.hid hx
   have hpf := hns.fit x (List.mem_of_getElem? hx)
   have hpo : Hid (parentOf ns k = x.parent) := Lib.hid (parentOf_at hx)
   have hqo : Hid (∀ z : Int, inR ns z = false → q z = false) := Lib.hid (fun z hz => by rw [← HQ.out]; exact mAt_out hz)
   clear hx hne
   by_cases hj2 : p.join = 2
   ·have e2 : (p.join == 2) = true := by simp [hj2]
    have hr : Hid (q x.parent = r) := Lib.hid (by rw [← hR3.out, ← hpo.out]; unfold mJoin; rw [if_pos hj2])
    clear hj2
    obtain ⟨nb, noff, av, rfl, g0, g1, g2, g3, g4, g5, hav⟩ := HV2.out.at HX.out
    clear g0 g2 g3 g4 g5 hav
    by_cases hu0 : x.parent < 0
    ·have hr2 : Hid (false = r) := Lib.hid (by rw [← hr.out, hqo.out _ (by simp [inR]; omega)])
     go_wp2_with fail
     go_ret
     exact ⟨retb hr2.out, HK2.out⟩
    ·by_cases hu1 : (ns.length : Int) ≤ x.parent
     ·have hr2 : Hid (false = r) := Lib.hid (by rw [← hr.out, hqo.out _ (by simp [inR]; omega)])
      go_wp2_with fail
      go_ret
      exact ⟨retb hr2.out, HK2.out⟩
     ·obtain ⟨u, HU⟩ : ∃ u : Nat, Hid (x.parent = (u : Int)) := ⟨x.parent.toNat, Lib.hid (by omega)⟩
      have hul : u < ns.length := by have := HU.out; omega
      rw [HU.out] at g1 hr hu0 hu1
      go_wp2_with (go_at_call 99; refine (IH2.out _ u hul HV2.out HP2.out).mono ?_; rintro e w3 ⟨rfl, hk3⟩)
      go_ret
      exact ⟨retb hr.out, HK2.out.trans hk3⟩
   ·have e2 : (p.join == 2) = false := by simp [hj2]
    by_cases hj3 : p.join = 3
    ·have e3 : (p.join == 3) = true := by simp [hj3]
     have hr : Hid (q (pAhead ns (k : Int)) = r) := Lib.hid (by rw [← hR3.out]; unfold mJoin; rw [if_neg hj2, if_pos hj3])
     have haf := ahead_fits ns (k : Int) hns.few
     have hal := ahead_in ns (k : Int)
     clear hj2 hj3
     generalize hag : pAhead ns (k : Int) = ag at *
     have HAH := rahead_any _ _ ns (k : Int) HV2.out (by omega)
     rw [hag] at HAH
     have HAH := Lib.hid HAH
     clear hag
     go_upto_region 15 with (go_at_call 147; refine HAH.out.mono ?_; rintro e w3 ⟨rfl, hq3⟩)
     have hk3 := hq3.kept (fun _ => False)
     have HV3 := Lib.hid (nodes_firm.kept HV2.out hk3)
     have HP3 := Lib.hid (parts_firm.kept HP2.out hk3)
     have HK3 := Lib.hid (HK2.out.trans hk3)
     clear hq3 hk3
     by_cases ha0 : ag < 0
     ·have hr2 : Hid (false = r) := Lib.hid (by rw [← hr.out, hqo.out _ (by simp [inR]; omega)])
      go_wp2_with fail
      go_ret
      exact ⟨retb hr2.out, HK3.out⟩
     ·obtain ⟨u, rfl⟩ : ∃ u : Nat, ag = (u : Int) := ⟨ag.toNat, by omega⟩
      have hul : u < ns.length := by omega
      go_wp2_with (go_at_call 99; refine (IH2.out _ u hul HV3.out HP3.out).mono ?_; rintro e w4 ⟨rfl, hk4⟩)
      go_ret
      exact ⟨retb hr.out, HK3.out.trans hk4⟩
    ·have e3 : (p.join == 3) = false := by simp [hj3]
     by_cases hj1 : p.join = 1
     ·have e1 : (p.join == 1) = true := by simp [hj1]
      have hr : Hid ((ups ns k).any (fun u => q (u : Int)) = r) := Lib.hid (by rw [← hR3.out]; unfold mJoin; rw [if_neg hj2, if_neg hj3, if_pos hj1])
      clear hj1 hj2 hj3
      go_wp2_with fail
      go_loopw [13] (fun u wr => ∃ z : Nat, u = .int .i64 (z : Int) ∧ z < ns.length ∧ Hid (Kept (fun _ => False) wc wr) ∧ Hid ((ups ns z).any (fun u => q (u : Int)) = r)) (fun u _ => (intOf u).toNat)
      case atStart => exact ⟨k, rfl, hkl, Lib.hid (Kept.refl _ _), hr⟩
      case round =>
       obtain ⟨z, rfl, hzl, HKZ, HU⟩ := hrel
       have hy := List.getElem?_eq_getElem hzl
       generalize hgy : ns[z] = y at hy
       clear hgy
       have hyf := hns.fit y (List.mem_of_getElem? hy)
       have hyo : Hid (parentOf ns z = y.parent) := Lib.hid (parentOf_at hy)
       have hvr := nodes_firm.kept HV2.out HKZ.out
       obtain ⟨nb2, noff2, av2, rfl, _, y1, _⟩ := hvr.at hy
       have HVR := Lib.hid hvr
       have HPR := Lib.hid (parts_firm.kept HP2.out HKZ.out)
       clear hy hvr
       by_cases h0 : y.parent < 0
       ·have hr2 : Hid (false = r) := Lib.hid (by rw [← HU.out, ups_eq, hyo.out, if_neg (by omega)]; rfl)
        go_wp2_with fail
        go_ret
        exact ⟨retb hr2.out, HK2.out.trans HKZ.out⟩
       ·by_cases h1 : (z : Int) ≤ y.parent
        ·have hr2 : Hid (false = r) := Lib.hid (by rw [← HU.out, ups_eq, hyo.out, if_neg (by omega)]; rfl)
         go_wp2_with fail
         go_ret
         exact ⟨retb hr2.out, HK2.out.trans HKZ.out⟩
        ·obtain ⟨u, HUU⟩ : ∃ u : Nat, Hid (y.parent = (u : Int)) := ⟨y.parent.toNat, Lib.hid (by omega)⟩
         have hul : u < z := by have := HUU.out; omega
         have hR4 : Hid ((q (u : Int) || (ups ns u).any (fun u => q (u : Int))) = r) := Lib.hid (by
          rw [← HU.out, ups_eq ns z, hyo.out, HUU.out, if_pos (by omega), Int.toNat_natCast, List.any_cons])
         rw [HUU.out] at y1 h0 h1 hyf
         have HCALL := Lib.hid (IH2.out wr u (by omega) HVR.out HPR.out)
         cases hq : q (u : Int) with
         | true =>
          rw [hq] at HCALL hR4
          have hrr : Hid (true = r) := Lib.hid (by rw [← hR4.out]; rfl)
          clear hq
          go_wp2_with (go_at_call 99; refine HCALL.out.mono ?_; rintro e w3 ⟨rfl, hk3⟩)
          go_ret
          exact ⟨retb hrr.out, (HK2.out.trans HKZ.out).trans hk3⟩
         | false =>
          rw [hq] at HCALL hR4
          clear hq
          go_wp2_with (go_at_call 99; refine HCALL.out.mono ?_; rintro e w3 ⟨rfl, hk3⟩)
          go_roundw
          case measure => simp [intOf]; omega
          case rel => exact ⟨u, rfl, by omega, Lib.hid (HKZ.out.trans hk3), Lib.hid (by rw [← hR4.out]; simp)⟩
     ·have e1 : (p.join == 1) = false := by simp [hj1]
      have hr : Hid (false = r) := Lib.hid (by rw [← hR3.out]; unfold mJoin; rw [if_neg hj2, if_neg hj3, if_neg hj1])
      clear hj1 hj2 hj3
      go_wp2_with fail
      go_ret
      exact ⟨retb hr.out, HK2.out⟩
end Go.Proofs.YtplbdlgmjehckacGreatDoor

