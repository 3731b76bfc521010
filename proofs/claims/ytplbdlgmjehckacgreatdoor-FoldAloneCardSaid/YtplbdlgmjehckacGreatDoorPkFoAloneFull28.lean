/-
 Lemmas for the claims of this seat: the program's functions walked, and plain laws. In this order: R3Get R3Test.
-/
import Derived.Test.YtplbdlgmjehckacGreatDoorPk14
import Derived.Deep.QuietTactic
import Derived.Test.YtplbdlgmjehckacGreatDoorPk13
namespace Go.Proofs.YtplbdlgmjehckacGreatDoor
open Go.RowKit
set_option linter.unusedVariables false
set_option linter.unusedSimpArgs false
set_option maxRecDepth 100000 in
set_option maxHeartbeats 1600000 in
theorem rget_any (w : World) (v : Value) (n : PNode) (nm : B) (hv : AttrsAt w v n.attrs) :
  Calls Tryz.prog 55 #[.agg #[.string (str n.name), .int .i64 n.parent, v, .int .i64 n.nameEnd, .int .i64 n.inF, .int .i64 n.inT], .string (str nm)] w fun e w' => e = .returned (.tuple #[.string (str (pGet n.attrs nm).1), .bool (pGet n.attrs nm).2]) ∧ Kept (fun _ => False) w w' := by
 obtain ⟨a, cap, rfl, hle, hcap⟩ := hv.form
 obtain ⟨name, parent, al, nameEnd, inF, inT⟩ := n
 simp only at hv hle ⊢
 unfold maxLen at hcap
 obtain ⟨wa, HWA⟩ : ∃ x', Hid (w.alloc (.cells #[.string (str name), .int .i64 parent, .slice a al.length cap, .int .i64 nameEnd, .int .i64 inF, .int .i64 inT] 45 (0, 0)) = x') := ⟨_, rfl⟩
 have ka : Kept (fun _ => False) w wa := by rw [← HWA.out]; exact (Kept.refl _ w).alloc _
 have hh : wa.heap[w.heap.size]? = some (.cells #[.string (str name), .int .i64 parent, .slice a al.length cap, .int .i64 nameEnd, .int .i64 inF, .int .i64 inT] 45 (0, 0)) := by rw [← HWA.out]; exact newIn w _
 have n2 : wa.cell? ⟨w.heap.size, 2, none⟩ = some (.slice a al.length cap) := cellIn hh 2 rfl
 have HV : Hid (AttrsAt wa (.slice a al.length cap) al) := Lib.hid (RowsAt.below hv ka.below)
 have KA := Lib.hid ka
 clear hv ka hh
 go_enter Tryz.func55, Tryz.ntmps55
 go_upto_region 1 with fail
 rw [HWA.out]
 go_wp2_with fail
 go_loopw [10] (fun i wr => ∃ k : Nat, k ≤ al.length ∧ i = .int .i64 k ∧ wr = wa ∧ Hid (∀ j y, j < k → al[j]? = some y → (y.name == nm) = false)) (fun i _ => al.length - (intOf i).toNat)
 case atStart => exact ⟨0, by omega, rfl, rfl, Lib.hid fun j y hj => by omega⟩
 case round =>
  obtain ⟨k, hk, rfl, rfl, HH⟩ := hrel
  by_cases hlt : k < al.length
  ·have hx := List.getElem?_eq_getElem hlt
   generalize hgx : al[k] = x at hx
   clear hgx
   obtain ⟨b, off, rfl, g0, g1, g2, g3⟩ := AttrsAt.at HV.out hx
   have HX := Lib.hid hx
   clear hx g2 g3
   cases hc : (x.name == nm) with
   | true =>
    go_wp2_with fail
    refine bodyPost_ret (v := .tuple #[.string (str x.val), .bool true]) (by simp [results, Tryz.results55, go_sem]) rfl ?_
    exact ⟨retpair (a := (x.val, true)) (pGet_hit HH.out HX.out hc).symm, KA.out⟩
   | false =>
    go_wp2_with fail
    go_roundw
    case rel =>
     refine ⟨k + 1, by omega, by go_num, by trivial, Lib.hid fun j y hj hy => ?_⟩
     by_cases hjk : j = k
     ·subst hjk
      rw [HX.out] at hy; cases hy
      exact hc
     ·exact HH.out j y (by omega) hy
    case measure => simp [intOf]; omega
  ·go_wp2_with fail
   refine bodyPost_ret (v := .tuple #[.string (str []), .bool false]) (by simp [results, Tryz.results55, go_sem]; rfl) rfl ?_
   refine ⟨retpair (b := pGet al nm) (a := ([], false)) ?_, KA.out⟩
   rw [pGet_miss (fun j y hy => HH.out j y (by have := (List.getElem?_eq_some_iff.1 hy).1; omega) hy)]
set_option maxRecDepth 100000 in
set_option maxHeartbeats 1600000 in
theorem rahead_any (w : World) (v : Value) (ns : List PNode) (k : Int) (hv : NodesAt w v ns) (hk : -9223372036854775808 ≤ k ∧ k ≤ 9223372036854775807) :
  Calls Tryz.prog 147 #[v, .int .i64 k] w (AheadEnds w (pAhead ns k)) := by
 have HV := Lib.hid hv
 obtain ⟨a, cap, rfl, hle, hcap⟩ := hv.form
 unfold maxLen at hcap
 clear hv
 obtain ⟨hk1, hk2⟩ := hk
 obtain ⟨r, HR⟩ : ∃ r, Hid (pAhead ns k = r) := ⟨_, rfl⟩
 rw [HR.out]
 by_cases h1 : (ns.length : Int) ≤ k
 ·have hR : Hid (-1 = r) := Lib.hid (by rw [← HR.out]; unfold pAhead; rw [if_pos (.inr h1)])
  by_cases h0 : 0 < k
  ·go_enter Tryz.func147, Tryz.ntmps147
   go_wp2_with fail
   go_loopw [5, 6] (fun o i wr => o = .int .i64 (-1) ∧ i = .int .i64 0 ∧ wr = w) (fun _ i _ => 0)
   case atStart => exact ⟨rfl, rfl, rfl⟩
   case round =>
    obtain ⟨rfl, rfl, rfl⟩ := hrel
    go_wp2_with fail
    go_ret
    exact ⟨reti hR.out, Qt.refl _⟩
  ·go_enter Tryz.func147, Tryz.ntmps147
   go_wp2_with fail
   go_loopw [5, 6] (fun o i wr => o = .int .i64 (-1) ∧ i = .int .i64 0 ∧ wr = w) (fun _ i _ => 0)
   case atStart => exact ⟨rfl, rfl, rfl⟩
   case round =>
    obtain ⟨rfl, rfl, rfl⟩ := hrel
    go_wp2_with fail
    go_ret
    exact ⟨reti hR.out, Qt.refl _⟩
 ·by_cases h0 : k < 0
  ·have hR : Hid (-1 = r) := Lib.hid (by rw [← HR.out]; unfold pAhead; rw [if_pos (.inl h0)])
   go_enter Tryz.func147, Tryz.ntmps147
   go_wp2_with fail
   go_loopw [5, 6] (fun o i wr => o = .int .i64 (-1) ∧ i = .int .i64 0 ∧ wr = w) (fun _ i _ => 0)
   case atStart => exact ⟨rfl, rfl, rfl⟩
   case round =>
    obtain ⟨rfl, rfl, rfl⟩ := hrel
    go_wp2_with fail
    go_ret
    exact ⟨reti hR.out, Qt.refl _⟩
  ·obtain ⟨kn, rfl⟩ : ∃ n : Nat, k = n := ⟨k.toNat, by omega⟩
   have hkl : kn < ns.length := by omega
   have hx := List.getElem?_eq_getElem hkl
   generalize hgx : ns[kn] = x at hx
   clear hgx
   obtain ⟨b, off, av, rfl, g0, g1, g2, g3, g4, g5, hav⟩ := HV.out.at hx
   have hr : Hid (lastWith ns x.parent kn = r) := Lib.hid (by
    have := HR.out
    unfold pAhead at this
    rw [if_neg (by omega), Int.toNat_natCast, hx] at this
    exact this)
   have HX := Lib.hid hx
   clear hx g0 g1 g2 g3 g4 g5 hav
   go_enter Tryz.func147, Tryz.ntmps147
   go_wp2_with fail
   go_loopw [5, 6] (fun o i wr => ∃ j : Nat, j ≤ kn ∧ i = .int .i64 (j : Int) ∧ o = .int .i64 (lastWith ns x.parent j) ∧ Hid (Qt w wr)) (fun _ i _ => kn - (intOf i).toNat)
   case atStart => exact ⟨0, by omega, rfl, rfl, Lib.hid (Qt.refl _)⟩
   case round =>
    obtain ⟨j, hj, rfl, rfl, HQ⟩ := hrel
    obtain ⟨wr0, hwr0⟩ : ∃ x, x = wr := ⟨_, rfl⟩
    subst hwr0
    by_cases hlt : j < kn
    ·have hy := List.getElem?_eq_getElem (show j < ns.length by omega)
     generalize hgy : ns[j] = y at hy
     clear hgy
     obtain ⟨b2, off2, av2, hbb, g0, q1, g2, g3, g4, g5, hav⟩ := (HV.out.quiet HQ.out).at hy
     cases hbb
     obtain ⟨b3, off3, av3, hbb, g0', p1, g2', g3', g4', g5', hav'⟩ := (HV.out.quiet HQ.out).at HX.out
     cases hbb
     clear g0 g2 g3 g4 g5 hav g0' g2' g3' g4' g5' hav'
     obtain ⟨q, HQL⟩ : ∃ q, Hid (lastWith ns x.parent j = q) := ⟨_, rfl⟩
     have hnx : Hid (lastWith ns x.parent (j + 1) = if (y.parent == x.parent) = true then (j : Int) else q) := Lib.hid (by
      rw [← HQL.out, lastWith, hy]; rfl)
     rw [HQL.out]
     clear hy
     cases hc : (y.parent == x.parent) with
     | true =>
      rw [hc] at hnx
      go_wp2_with fail
      go_quiet (fail)
      go_wp2_with fail
      go_roundw
      case rel => exact ⟨j + 1, by omega, by go_num, by rw [hnx.out]; rfl, Lib.hid (Qt.trans HQ.out ⟨nq, rfl⟩)⟩
      case measure => simp [intOf]; omega
     | false =>
      rw [hc] at hnx
      go_wp2_with fail
      go_quiet (fail)
      go_wp2_with fail
      go_roundw
      case rel => exact ⟨j + 1, by omega, by go_num, by rw [hnx.out]; rfl, Lib.hid (Qt.trans HQ.out ⟨nq, rfl⟩)⟩
      case measure => simp [intOf]; omega
    ·obtain rfl : j = kn := by omega
     go_wp2_with fail
     go_ret
     exact ⟨reti hr.out, HQ.out⟩
def keyOf (t : PTest) : B := if t.kind = 2 then className else if t.kind = 3 then idName else if t.kind = 4 ∨ t.kind = 5 then t.name else []
def kv (s : B) : Option Value := some (.string (str s))
def keyInt (n : B) (x2 x3 x4 x5 : Bool) (k : Int) : Option Value := if k = 2 then (if x2 then kv className else none) else if k = 3 then (if x3 then kv idName else none) else if k = 4 then (if x4 then kv n else none) else if k = 5 then (if x5 then kv n else none) else none
def keyMap (n : B) (x2 x3 x4 x5 : Bool) : Value → Option Value
 | .int .i64 k => keyInt n x2 x3 x4 x5 k
 | _ => none
theorem key_upd {n : B} {x2 x3 x4 x5 y2 y3 y4 y5 : Bool} {k : Int} (h2 : k = 2 ∨ x2 = y2) (h3 : k = 3 ∨ x3 = y3) (h4 : k = 4 ∨ x4 = y4) (h5 : k = 5 ∨ x5 = y5) :
  ∀ y, MapKept.IsKey (.int .i64) y → y ≠ .int .i64 k → keyMap n y2 y3 y4 y5 y = keyMap n x2 x3 x4 x5 y := by
 intro y hy hne
 cases y with
 | int q j =>
  have : q = .i64 := hy
  subst this
  have hj : j ≠ k := fun e => hne (by rw [e])
  show keyInt n y2 y3 y4 y5 j = keyInt n x2 x3 x4 x5 j
  unfold keyInt
  by_cases e2 : j = 2
  ·rw [if_pos e2, if_pos e2, h2.resolve_left (by omega)]
  ·rw [if_neg e2, if_neg e2]
   by_cases e3 : j = 3
   ·rw [if_pos e3, if_pos e3, h3.resolve_left (by omega)]
   ·rw [if_neg e3, if_neg e3]
    by_cases e4 : j = 4
    ·rw [if_pos e4, if_pos e4, h4.resolve_left (by omega)]
    ·rw [if_neg e4, if_neg e4]
     by_cases e5 : j = 5
     ·rw [if_pos e5, if_pos e5, h5.resolve_left (by omega)]
     ·rw [if_neg e5, if_neg e5]
 | _ => exact absurd hy (by simp [MapKept.IsKey])
theorem zero_str (w : World) : (zeroValue 9).run Tryz.prog w = .ok (.string (str [])) w := by kernel_rfl
theorem key_look (t : PTest) (w : World) (b : Nat) (h : MapFn (.int .i64) w b (keyMap t.name true true true true)) :
  (Instr.lookup 230 (.map (some b)) (.int .i64 t.kind) false).run Tryz.prog w = .ok (.string (str (keyOf t))) w := by
 by_cases hk : t.kind = 2 ∨ t.kind = 3 ∨ t.kind = 4 ∨ t.kind = 5
 ·refine h.hit Tryz.underlying230 Tryz.underlying3 (by trivial) ?_ false
  show keyInt t.name true true true true t.kind = _
  unfold keyInt keyOf
  by_cases h2 : t.kind = 2
  ·simp [h2, kv]
  ·by_cases h3 : t.kind = 3
   ·simp [h3, kv]
   ·by_cases h4 : t.kind = 4
    ·simp [h4, kv]
    ·have h5 : t.kind = 5 := by omega
     simp [h5, kv]
 ·refine h.miss Tryz.underlying230 Tryz.underlying3 (by trivial) ?_ ?_ false
  ·show keyInt t.name true true true true t.kind = _
   unfold keyInt
   rw [if_neg (by omega), if_neg (by omega), if_neg (by omega), if_neg (by omega)]
  ·have : keyOf t = [] := by unfold keyOf; rw [if_neg (by omega), if_neg (by omega), if_neg (by omega)]
   rw [this]
   exact zero_str w
def notBlank (c : UInt8) : Bool := !(c == 32)
def wordHit (x : B) : Bool → B → Bool
 | _, [] => false
 | st, c :: t => (st && !((c :: t).takeWhile notBlank).isEmpty && (c :: t).takeWhile notBlank == x) || wordHit x (c == 32) t
theorem split_head : ∀ l : B, (splitB l).head? = some (l.takeWhile notBlank)
 | [] => rfl
 | c :: t => by
  simp only [splitB]
  by_cases hc : c = 32
  ·subst hc; rfl
  ·have ih := split_head t
   have hb : notBlank c = true := by simp [notBlank, hc]
   rw [if_neg hc, List.takeWhile_cons, if_pos hb]
   cases hs : splitB t with
   | nil => exact absurd hs (splitB_ne t)
   | cons w ws =>
    rw [hs] at ih
    simp only [List.head?_cons, Option.some.injEq] at ih
    simp [ih]
theorem word_hit (x : B) : ∀ l : B, wordHit x true l = (!x.isEmpty && (splitB l).contains x) ∧ wordHit x false l = (!x.isEmpty && (splitB l).tail.contains x)
 | [] => by
  cases x with
  | nil => exact ⟨rfl, rfl⟩
  | cons a x => exact ⟨by simp [wordHit, splitB], by simp [wordHit, splitB]⟩
 | c :: t => by
  have ih := word_hit x t
  simp only [wordHit, splitB]
  by_cases hc : c = 32
  ·subst hc
   have e1 : ((32 : UInt8) == 32) = true := rfl
   have e2 : ((32 :: t : B).takeWhile notBlank) = [] := rfl
   rw [e1, ih.1, e2, if_pos rfl]
   cases x with
   | nil => exact ⟨rfl, rfl⟩
   | cons a x => exact ⟨by simp, by simp⟩
  ·have hb : notBlank c = true := by simp [notBlank, hc]
   have e1 : (c == 32) = false := by simpa using hc
   have e2 : ((c :: t : B).takeWhile notBlank) = c :: t.takeWhile notBlank := by rw [List.takeWhile_cons, if_pos hb]
   have hh := split_head t
   rw [e1, ih.2, e2, if_neg hc]
   cases hs : splitB t with
   | nil => exact absurd hs (splitB_ne t)
   | cons w ws =>
    rw [hs] at hh
    simp only [List.head?_cons, Option.some.injEq] at hh
    subst hh
    cases x with
    | nil => exact ⟨by simp, by simp⟩
    | cons a x =>
     refine ⟨?_, by simp⟩
     simp only [List.isEmpty_cons, Bool.not_false, Bool.true_and, List.tail_cons, List.contains_cons]
     rw [show (c :: List.takeWhile notBlank t == a :: x) = (a :: x == c :: List.takeWhile notBlank t) from by rw [Bool.eq_iff_iff, beq_iff_eq, beq_iff_eq]; exact eq_comm]
section
variable {ops : Array Oper} {o : Oper} {a : Act} {K : Act → World → Prop} {Q : Exit → Act → World → Prop} {E : Prop} {wa wc : World} {b : Nat} {n : B} {x2 x3 x4 x5 : Bool}
set_option maxRecDepth 20000 in
theorem arm_key2 (hM : MapFn (.int .i64) wc b (keyMap n x2 x3 x4 x5)) (hK : Kept (fun _ => False) wa wc) (hb : wa.heap.size ≤ b)
  (h : ∀ w', MapFn (.int .i64) w' b (keyMap n true x3 x4 x5) → Kept (fun _ => False) wa w' → K (a.put o.dst undef) w') : Oper.upon Tryz.prog o a K Q ((Sem.run Tryz.prog (Instr.mapUpdate 230 (.map (some b)) (.int .i64 2) (.string ⟨#[99, 108, 97, 115, 115]⟩)) wc).andThen fun _ w' => .ok .skip w') :=
 upon_insert (P := Tryz.prog) (mty := 230) (kt := 3) (et := 9) (kind := .int .i64) Tryz.underlying230 Tryz.underlying3 (keyMap n true x3 x4 x5) hM (by trivial) rfl (key_upd (.inl rfl) (.inr rfl) (.inr rfl) (.inr rfl)) fun w' h1 h2 _ => h w' h1 (hK.trans' h2 fun i hi hx => by omega)
set_option maxRecDepth 20000 in
theorem arm_key3 (hM : MapFn (.int .i64) wc b (keyMap n x2 x3 x4 x5)) (hK : Kept (fun _ => False) wa wc) (hb : wa.heap.size ≤ b)
  (h : ∀ w', MapFn (.int .i64) w' b (keyMap n x2 true x4 x5) → Kept (fun _ => False) wa w' → K (a.put o.dst undef) w') : Oper.upon Tryz.prog o a K Q ((Sem.run Tryz.prog (Instr.mapUpdate 230 (.map (some b)) (.int .i64 3) (.string ⟨#[105, 100]⟩)) wc).andThen fun _ w' => .ok .skip w') :=
 upon_insert (P := Tryz.prog) (mty := 230) (kt := 3) (et := 9) (kind := .int .i64) Tryz.underlying230 Tryz.underlying3 (keyMap n x2 true x4 x5) hM (by trivial) rfl (key_upd (.inr rfl) (.inl rfl) (.inr rfl) (.inr rfl)) fun w' h1 h2 _ => h w' h1 (hK.trans' h2 fun i hi hx => by omega)
set_option maxRecDepth 20000 in
theorem arm_key4 (hM : MapFn (.int .i64) wc b (keyMap n x2 x3 x4 x5)) (hK : Kept (fun _ => False) wa wc) (hb : wa.heap.size ≤ b)
  (h : ∀ w', MapFn (.int .i64) w' b (keyMap n x2 x3 true x5) → Kept (fun _ => False) wa w' → K (a.put o.dst undef) w') : Oper.upon Tryz.prog o a K Q ((Sem.run Tryz.prog (Instr.mapUpdate 230 (.map (some b)) (.int .i64 4) (.string (str n))) wc).andThen fun _ w' => .ok .skip w') :=
 upon_insert (P := Tryz.prog) (mty := 230) (kt := 3) (et := 9) (kind := .int .i64) Tryz.underlying230 Tryz.underlying3 (keyMap n x2 x3 true x5) hM (by trivial) rfl (key_upd (.inr rfl) (.inr rfl) (.inl rfl) (.inr rfl)) fun w' h1 h2 _ => h w' h1 (hK.trans' h2 fun i hi hx => by omega)
set_option maxRecDepth 20000 in
theorem arm_key5 (hM : MapFn (.int .i64) wc b (keyMap n x2 x3 x4 x5)) (hK : Kept (fun _ => False) wa wc) (hb : wa.heap.size ≤ b)
  (h : ∀ w', MapFn (.int .i64) w' b (keyMap n x2 x3 x4 true) → Kept (fun _ => False) wa w' → K (a.put o.dst undef) w') : Oper.upon Tryz.prog o a K Q ((Sem.run Tryz.prog (Instr.mapUpdate 230 (.map (some b)) (.int .i64 5) (.string (str n))) wc).andThen fun _ w' => .ok .skip w') :=
 upon_insert (P := Tryz.prog) (mty := 230) (kt := 3) (et := 9) (kind := .int .i64) Tryz.underlying230 Tryz.underlying3 (keyMap n x2 x3 x4 true) hM (by trivial) rfl (key_upd (.inr rfl) (.inr rfl) (.inr rfl) (.inl rfl)) fun w' h1 h2 _ => h w' h1 (hK.trans' h2 fun i hi hx => by omega)
theorem key_none (n : B) : (fun _ => none : Value → Option Value) = keyMap n false false false false := by
 funext y
 cases y with
 | int q j =>
  cases q with
  | i64 => show none = keyInt n false false false false j; unfold keyInt; simp
  | _ => rfl
 | _ => rfl
theorem arm_made (t : TypeId) (n : B) (hK : Kept (fun _ => False) wa wc)
  (h : ∀ b w', wa.heap.size ≤ b → MapFn (.int .i64) w' b (keyMap n false false false false) → Kept (fun _ => False) wa w' → K (a.put o.dst (.map (some b))) w') : Oper.upon Tryz.prog o a K Q ((Sem.run Tryz.prog (Instr.makeMap t none) wc).andThen fun v w' => .ok (.value v) w') :=
 upon_made t (.int .i64) fun b w' h1 _ h3 h4 => h b w' (by rw [h1]; exact hK.size) (by rw [← key_none]; exact h3) (hK.trans h4)
end
def startsAt (v : B) (j : Nat) : Bool := j == 0 || (v[j - 1]? == some 32)
theorem starts_succ (v : B) {j : Nat} (h : j < v.length) : startsAt v (j + 1) = (v[j] == 32) := by
 simp [startsAt, List.getElem?_eq_getElem h]
theorem word_next {x v : B} {j : Nat} {r : Bool} (h : wordHit x false (v.drop j) = r) : wordHit x (startsAt v (j + 1)) (v.drop (j + 1)) = r := by
 by_cases hl : j < v.length
 ·rw [List.drop_eq_getElem_cons hl] at h
  rw [starts_succ v hl, ← h]
  simp [wordHit]
 ·rw [List.drop_of_length_le (by omega)] at h ⊢
  exact h
theorem word_step {x v : B} {j : Nat} {r : Bool} (h : wordHit x true (v.drop j) = r) :
  ((!((v.drop j).takeWhile notBlank).isEmpty && (v.drop j).takeWhile notBlank == x) || wordHit x (startsAt v (j + 1)) (v.drop (j + 1))) = r := by
 by_cases hl : j < v.length
 ·rw [List.drop_eq_getElem_cons hl] at h ⊢
  rw [starts_succ v hl, ← h]
  simp [wordHit]
 ·rw [List.drop_of_length_le (by omega)] at h ⊢
  rw [List.drop_of_length_le (by omega)]
  exact h
set_option maxRecDepth 100000 in
set_option maxHeartbeats 3200000 in
theorem rtest_any (w : World) (v : Value) (ns : List PNode) (k : Nat) (hv : NodesAt w v ns) (hk : k < ns.length) (hs : Short ns) (hn0 : ns.length ≤ 1048576) (t : PTest) :
  Calls Tryz.prog 146 #[v, .int .i64 (k : Int), .agg #[.int .i64 t.kind, .string (str t.name), .string (str t.val)]] w fun e w' => e = .returned (.bool (mTest ns k t)) ∧ Kept (fun _ => False) w w' := by
 obtain ⟨r, HR⟩ : ∃ r, Hid (mTest ns k t = r) := ⟨_, rfl⟩
 rw [HR.out]
 obtain ⟨a, cap, rfl, hle, hcap⟩ := hv.form
 unfold maxLen at hcap
 have hx := List.getElem?_eq_getElem hk
 generalize hgx : ns[k] = n at hx
 clear hgx
 obtain ⟨nb, noff, av, rfl, g0, g1, g2, g3, g4, g5, hav⟩ := hv.at hx
 obtain ⟨aa, acap, rfl, hac1, hac2⟩ := hav.form
 unfold maxLen at hac2
 have hR : Hid (mTestN ns k n t = r) := Lib.hid (by rw [← HR.out]; unfold mTest; rw [hx])
 have HGS := Lib.hid (get_short hs (List.mem_of_getElem? hx))
 have HV := Lib.hid hv
 have HX := Lib.hid hx
 obtain ⟨wa, HWA⟩ : ∃ x', Hid (w.alloc (.cells #[.int .i64 t.kind, .string (str t.name), .string (str t.val)] 158 (0, 0)) = x') := ⟨_, rfl⟩
 have ka : Kept (fun _ => False) w wa := by rw [← HWA.out]; exact (Kept.refl _ w).alloc _
 have hh : wa.heap[w.heap.size]? = some (.cells #[.int .i64 t.kind, .string (str t.name), .string (str t.val)] 158 (0, 0)) := by rw [← HWA.out]; exact newIn w _
 have q0 : wa.cell? ⟨w.heap.size, 0, none⟩ = some (.int .i64 t.kind) := cellIn hh 0 rfl
 have q1 : wa.cell? ⟨w.heap.size, 1, none⟩ = some (.string (str t.name)) := cellIn hh 1 rfl
 have q2 : wa.cell? ⟨w.heap.size, 2, none⟩ = some (.string (str t.val)) := cellIn hh 2 rfl
 have n0 : wa.cell? ⟨nb, noff + k * 6, none⟩ = some (.string (str n.name)) := ka.cell id g0
 have n1 := ka.cell id g1
 have n2 := ka.cell id g2
 have n3 := ka.cell id g3
 have n4 := ka.cell id g4
 have n5 := ka.cell id g5
 have hlt : w.heap.size < wa.heap.size := ltIn hh
 have HAV := Lib.hid (RowsAt.below hav ka.below)
 have KA := Lib.hid ka
 clear hx hv hs hh ka hav g0 g1 g2 g3 g4 g5
 go_enter Tryz.func146, Tryz.ntmps146
 go_upto_region 1 with fail
 rw [HWA.out]
 obtain ⟨⟨gv, gb⟩, HG⟩ : ∃ g, Hid (pGet n.attrs (keyOf t) = g) := ⟨_, rfl⟩
 go_cut [7, 8] (fun s h wx => s = .string (str gv) ∧ h = .bool gb ∧ Hid (Kept (fun _ => False) wa wx))
 case first =>
  go_region_held3 (fun w' => w'.cell? ⟨w.heap.size, 0, none⟩ = some (.int .i64 t.kind) ∧ w'.cell? ⟨w.heap.size, 1, none⟩ = some (.string (str t.name)) ∧ w'.cell? ⟨nb, noff + k * 6, none⟩ = some (.string (str n.name)) ∧ w'.cell? ⟨nb, noff + k * 6 + 1, none⟩ = some (.int .i64 n.parent) ∧ w'.cell? ⟨nb, noff + k * 6 + 2, none⟩ = some (.slice aa n.attrs.length acap) ∧ w'.cell? ⟨nb, noff + k * 6 + 3, none⟩ = some (.int .i64 n.nameEnd) ∧ w'.cell? ⟨nb, noff + k * 6 + 4, none⟩ = some (.int .i64 n.inF) ∧ w'.cell? ⟨nb, noff + k * 6 + 5, none⟩ = some (.int .i64 n.inT)) (first | exact ⟨hK.cell id q0, hK.cell id q1, hK.cell id n0, hK.cell id n1, hK.cell id n2, hK.cell id n3, hK.cell id n4, hK.cell id n5⟩ | go_keep)
   ((first
    | (with_reducible refine arm_made (wa := wa) 230 t.name (by first | exact (Kept.refl _ wa).drew | exact Kept.refl _ wa) ?_; intro b1 w1 hb1 hM hK)
    | (with_reducible refine arm_key2 (wa := wa) hM hK hb1 ?_; clear hM hK; intro w1 hM hK)
    | (with_reducible refine arm_key3 (wa := wa) hM hK hb1 ?_; clear hM hK; intro w1 hM hK)
    | (with_reducible refine arm_key4 (wa := wa) hM hK hb1 ?_; clear hM hK; intro w1 hM hK)
    | (with_reducible refine arm_key5 (wa := wa) hM hK hb1 ?_; clear hM hK; intro w1 hM hK)
    | (with_reducible refine upon_look _ (key_look t _ _ hM) ?_)
    | (go_at_call 55; refine (rget_any _ _ n (keyOf t) (by exact RowsAt.below HAV.out hK.below)).mono ?_; rintro e w5 ⟨rfl, hk5⟩; have hK := hK.trans hk5)))
  all_goals
   go_wp2_with fail
   go_meet
   case rel => exact ⟨by rw [HG.out], by rw [HG.out], Lib.hid hK⟩
 case rest =>
  obtain ⟨rfl, rfl, HKX⟩ := hcut
  have c0 := HKX.out.cell id q0
  have c1 := HKX.out.cell id q1
  have c2 := HKX.out.cell id q2
  have m0 := HKX.out.cell id n0
  have HVX := Lib.hid (nodes_firm.kept HV.out (KA.out.trans HKX.out))
  have KX := Lib.hid (KA.out.trans HKX.out)
  clear q0 q1 q2 n0 n1 n2 n3 n4 n5
  by_cases h1 : t.kind = 1
  ·have e1 : (t.kind == 1) = true := by simp [h1]
   have HRR : Hid ((n.name == t.name) = r) := Lib.hid (by rw [← hR.out]; unfold mTestN; rw [if_pos h1])
   clear h1
   go_wp2_with fail
   go_quiet (fail)
   go_wp2_with fail
   go_ret
   exact ⟨retb HRR.out, KX.out.drewN _⟩
  ·have e1 : (t.kind == 1) = false := by simp [h1]
   by_cases h2 : t.kind = 2
   ·have e2 : (t.kind == 2) = true := by simp [h2]
    have HK2 : Hid (keyOf t = className) := Lib.hid (by unfold keyOf; rw [if_pos h2])
    have HRR : Hid (wordHit t.name true gv = r) := Lib.hid (by
     rw [← hR.out, (word_hit t.name gv).1]; unfold mTestN; rw [if_neg h1, if_pos h2]
     have := HG.out
     rw [HK2.out] at this
     rw [this])
    have hgl : gv.length ≤ 1048576 := by have := HGS.out (keyOf t); rw [HG.out] at this; exact this
    clear h1 h2
    go_wp2_with fail
    go_loopw [9] (fun i wr => ∃ j : Nat, j ≤ gv.length + 1 ∧ i = .int .i64 (j : Int) ∧ Hid (Qt wc wr) ∧ Hid (wordHit t.name (startsAt gv j) (gv.drop j) = r)) (fun i _ => gv.length + 1 - (intOf i).toNat)
    case atStart => exact ⟨0, by omega, rfl, Lib.hid (Qt.refl _), HRR⟩
    case round =>
     obtain ⟨j, hj, rfl, HQ, HW⟩ := hrel
     obtain ⟨wr0, hwr0⟩ : ∃ x, x = wr := ⟨_, rfl⟩
     subst hwr0
     by_cases hlast : gv.length < j
     ·have hr : r = false := by
       rw [← HW.out, List.drop_of_length_le (by omega)]; rfl
      go_wp2_with fail
      go_ret
      exact ⟨retb hr.symm, KX.out.trans (HQ.out.kept _)⟩
     ·have hjl : j ≤ gv.length := by omega
      cases hst : startsAt gv j with
      | false =>
       rw [hst] at HW
       cases j with
       | zero => simp [startsAt] at hst
       | succ i =>
        have hil : i < gv.length := by omega
        have hc : ¬ gv[i] = 32 := by
         intro e
         simp [startsAt, List.getElem?_eq_getElem hil, e] at hst
        have hcI : (((gv[i]).toNat : Int) != 32) = true := by
         simp only [bne_iff_ne, ne_eq]
         intro e
         exact hc (UInt8.toNat_inj.1 (by have : (32 : UInt8).toNat = 32 := rfl; omega))
        have hnx := word_next HW.out
        have hi1 : ((i + 1 : Nat) : Int) - 1 = (i : Int) := by omega
        clear hst hc
        go_wp2_with fail
        go_roundw
        case measure => simp [intOf]; omega
        case rel => exact ⟨i + 1 + 1, by omega, by go_num, HQ, Lib.hid hnx⟩
      | true =>
       rw [hst] at HW
       have hcase : Hid (j = 0) ∨ ∃ i, Hid (j = i + 1) ∧ ∃ h : i < gv.length, (((gv[i]).toNat : Int) != 32) = false := by
        cases j with
        | zero => exact .inl (Lib.hid rfl)
        | succ i =>
         have hil : i < gv.length := by omega
         refine .inr ⟨i, Lib.hid rfl, hil, ?_⟩
         have : gv[i] = 32 := by simpa [startsAt, List.getElem?_eq_getElem hil] using hst
         rw [this]; rfl
       clear hst
       rcases hcase with HJ0 | ⟨i, HJ0, hil, hcI⟩
       ·have d0 : decide ((0 : Int) < (j : Int)) = false := by have := HJ0.out; simp; omega
        have d0' : ¬ 0 < j := by have := HJ0.out; omega
        have d0'' : (0 < j) = False := by simp; exact HJ0.out
        go_wp2_with fail
        go_loopw [10] (fun e ws => ∃ m : Nat, j ≤ m ∧ m ≤ gv.length ∧ e = .int .i64 (m : Int) ∧ Hid (Qt wc ws) ∧ Hid ((gv.drop j).takeWhile notBlank = (gv.drop j).take (m - j) ++ (gv.drop m).takeWhile notBlank)) (fun e _ => gv.length - (intOf e).toNat)
        case atStart => exact ⟨j, by omega, hjl, rfl, HQ, Lib.hid (by simp)⟩
        case round =>
         obtain ⟨m, hm1, hm2, rfl, HQ2, hT⟩ := hrel
         by_cases hml : m < gv.length
         ·have hd := List.drop_eq_getElem_cons hml
          by_cases hc : gv[m] = 32
          ·have hcI2 : (((gv[m]).toNat : Int) != 32) = false := by rw [hc]; rfl
           have hend : (gv.drop m).takeWhile notBlank = [] := by rw [hd, hc]; rfl
           clear hd hc
           have c1' := (HQ2.out.kept (fun _ => False)).cell id c1
           have hword : (gv.drop j).takeWhile notBlank = (gv.drop j).take (m - j) := by rw [hT.out, hend, List.append_nil]
           have hstep := word_step HW.out
           rw [hword] at hstep
           by_cases hjm : j < m
           ·have hne : ((gv.drop j).take (m - j)).isEmpty = false := by
             rw [List.isEmpty_eq_false_iff]
             intro e
             have := congrArg List.length e
             simp at this
             omega
            rw [hne] at hstep
            have d1 : decide ((j : Int) < (m : Int)) = true := by simp; omega
            have d2 : decide (j < m) = true := by simp; omega
            have d3 : ((j : Int) < (m : Int)) = True := by simp; omega
            have d4 : (j < m) = True := by simp; omega
            have b1 : (0 : Int) ≤ (j : Int) := by omega
            have b2 : (j : Int) ≤ (m : Int) := by omega
            have b3 : (m : Int) ≤ (gv.length : Int) := by omega
            have b4 : j ≤ m := by omega
            cases hq : ((gv.drop j).take (m - j) == t.name) with
            | true =>
             rw [hq] at hstep
             have hr : Hid (true = r) := Lib.hid (by rw [← hstep]; simp)
             clear hend hword hstep hne hjm
             go_wp2_with fail
             go_quiet (fail)
             go_wp2_with fail
             go_ret
             exact ⟨retb hr.out, (KX.out.trans (HQ2.out.kept _)).drewN _⟩
            | false =>
             rw [hq] at hstep
             have hr : Hid (wordHit t.name (startsAt gv (j + 1)) (gv.drop (j + 1)) = r) := Lib.hid (by rw [← hstep]; simp)
             clear hend hword hstep hne hjm
             go_wp2_with fail
             go_quiet (fail)
             go_wp2_with fail
             go_roundw
             case measure => simp [intOf]; omega
             case rel => exact ⟨j + 1, by omega, by go_num, Lib.hid (HQ2.out.trans ⟨nq, rfl⟩), hr⟩
           ·have hmj : m = j := by omega
            have d1 : decide ((j : Int) < (m : Int)) = false := by simp; omega
            have d2 : decide (j < m) = false := by simp; omega
            have d3 : ((j : Int) < (m : Int)) = False := by simp; omega
            have d4 : (j < m) = False := by simp; omega
            have hne : (gv.drop j).take (m - j) = [] := by rw [hmj]; simp
            rw [hne] at hstep
            have hr : Hid (wordHit t.name (startsAt gv (j + 1)) (gv.drop (j + 1)) = r) := Lib.hid (by rw [← hstep]; simp)
            clear hend hword hstep hne hjm hmj
            go_wp2_with fail
            go_quiet (fail)
            go_wp2_with fail
            go_roundw
            case measure => simp [intOf]; omega
            case rel => exact ⟨j + 1, by omega, by go_num, Lib.hid (HQ2.out.trans ⟨nq, rfl⟩), hr⟩
          ·have hcI2 : (((gv[m]).toNat : Int) != 32) = true := by
            simp only [bne_iff_ne, ne_eq]
            intro e
            exact hc (UInt8.toNat_inj.1 (by have : (32 : UInt8).toNat = 32 := rfl; omega))
           have hnx : Hid ((gv.drop j).takeWhile notBlank = (gv.drop j).take (m + 1 - j) ++ (gv.drop (m + 1)).takeWhile notBlank) := Lib.hid (by
            have hb : notBlank gv[m] = true := by simp [notBlank, hc]
            rw [hT.out, hd, List.takeWhile_cons, if_pos hb, show m + 1 - j = (m - j) + 1 from by omega, List.take_add_one]
            have : (gv.drop j)[m - j]? = some gv[m] := by rw [List.getElem?_drop, show j + (m - j) = m from by omega, List.getElem?_eq_getElem hml]
            rw [this]
            simp)
           clear hd hc
           go_wp2_with fail
           go_roundw
           case measure => simp [intOf]; omega
           case rel => exact ⟨m + 1, by omega, by omega, by go_num, HQ2, hnx⟩
         ·have hend : (gv.drop m).takeWhile notBlank = [] := by rw [List.drop_of_length_le (by omega)]; rfl
          have hmy : m = gv.length := by omega
          have hmx : (m < gv.length) = False := by simp; omega
          have c1' := (HQ2.out.kept (fun _ => False)).cell id c1
          have hword : (gv.drop j).takeWhile notBlank = (gv.drop j).take (m - j) := by rw [hT.out, hend, List.append_nil]
          have hstep := word_step HW.out
          rw [hword] at hstep
          by_cases hjm : j < m
          ·have hne : ((gv.drop j).take (m - j)).isEmpty = false := by
            rw [List.isEmpty_eq_false_iff]
            intro e
            have := congrArg List.length e
            simp at this
            omega
           rw [hne] at hstep
           have d1 : decide ((j : Int) < (m : Int)) = true := by simp; omega
           have d2 : decide (j < m) = true := by simp; omega
           have d3 : ((j : Int) < (m : Int)) = True := by simp; omega
           have d4 : (j < m) = True := by simp; omega
           have b1 : (0 : Int) ≤ (j : Int) := by omega
           have b2 : (j : Int) ≤ (m : Int) := by omega
           have b3 : (m : Int) ≤ (gv.length : Int) := by omega
           have b4 : j ≤ m := by omega
           cases hq : ((gv.drop j).take (m - j) == t.name) with
           | true =>
            rw [hq] at hstep
            have hr : Hid (true = r) := Lib.hid (by rw [← hstep]; simp)
            clear hend hword hstep hne hjm hmy
            go_wp2_with fail
            go_quiet (fail)
            go_wp2_with fail
            go_ret
            exact ⟨retb hr.out, (KX.out.trans (HQ2.out.kept _)).drewN _⟩
           | false =>
            rw [hq] at hstep
            have hr : Hid (wordHit t.name (startsAt gv (j + 1)) (gv.drop (j + 1)) = r) := Lib.hid (by rw [← hstep]; simp)
            clear hend hword hstep hne hjm hmy
            go_wp2_with fail
            go_quiet (fail)
            go_wp2_with fail
            go_roundw
            case measure => simp [intOf]; omega
            case rel => exact ⟨j + 1, by omega, by go_num, Lib.hid (HQ2.out.trans ⟨nq, rfl⟩), hr⟩
          ·have hmj : m = j := by omega
           have d1 : decide ((j : Int) < (m : Int)) = false := by simp; omega
           have d2 : decide (j < m) = false := by simp; omega
           have d3 : ((j : Int) < (m : Int)) = False := by simp; omega
           have d4 : (j < m) = False := by simp; omega
           have hne : (gv.drop j).take (m - j) = [] := by rw [hmj]; simp
           rw [hne] at hstep
           have hr : Hid (wordHit t.name (startsAt gv (j + 1)) (gv.drop (j + 1)) = r) := Lib.hid (by rw [← hstep]; simp)
           clear hend hword hstep hne hjm hmj hmy
           go_wp2_with fail
           go_quiet (fail)
           go_wp2_with fail
           go_roundw
           case measure => simp [intOf]; omega
           case rel => exact ⟨j + 1, by omega, by go_num, Lib.hid (HQ2.out.trans ⟨nq, rfl⟩), hr⟩
       ·have d0 : decide ((0 : Int) < (j : Int)) = true := by have := HJ0.out; simp; omega
        have hi1 : (j : Int) - 1 = (i : Int) := by have := HJ0.out; omega
        go_wp2_with fail
        go_loopw [10] (fun e ws => ∃ m : Nat, j ≤ m ∧ m ≤ gv.length ∧ e = .int .i64 (m : Int) ∧ Hid (Qt wc ws) ∧ Hid ((gv.drop j).takeWhile notBlank = (gv.drop j).take (m - j) ++ (gv.drop m).takeWhile notBlank)) (fun e _ => gv.length - (intOf e).toNat)
        case atStart => exact ⟨j, by omega, hjl, rfl, HQ, Lib.hid (by simp)⟩
        case round =>
         obtain ⟨m, hm1, hm2, rfl, HQ2, hT⟩ := hrel
         by_cases hml : m < gv.length
         ·have hd := List.drop_eq_getElem_cons hml
          by_cases hc : gv[m] = 32
          ·have hcI2 : (((gv[m]).toNat : Int) != 32) = false := by rw [hc]; rfl
           have hend : (gv.drop m).takeWhile notBlank = [] := by rw [hd, hc]; rfl
           clear hd hc
           have c1' := (HQ2.out.kept (fun _ => False)).cell id c1
           have hword : (gv.drop j).takeWhile notBlank = (gv.drop j).take (m - j) := by rw [hT.out, hend, List.append_nil]
           have hstep := word_step HW.out
           rw [hword] at hstep
           by_cases hjm : j < m
           ·have hne : ((gv.drop j).take (m - j)).isEmpty = false := by
             rw [List.isEmpty_eq_false_iff]
             intro e
             have := congrArg List.length e
             simp at this
             omega
            rw [hne] at hstep
            have d1 : decide ((j : Int) < (m : Int)) = true := by simp; omega
            have d2 : decide (j < m) = true := by simp; omega
            have d3 : ((j : Int) < (m : Int)) = True := by simp; omega
            have d4 : (j < m) = True := by simp; omega
            have b1 : (0 : Int) ≤ (j : Int) := by omega
            have b2 : (j : Int) ≤ (m : Int) := by omega
            have b3 : (m : Int) ≤ (gv.length : Int) := by omega
            have b4 : j ≤ m := by omega
            cases hq : ((gv.drop j).take (m - j) == t.name) with
            | true =>
             rw [hq] at hstep
             have hr : Hid (true = r) := Lib.hid (by rw [← hstep]; simp)
             clear hend hword hstep hne hjm
             go_wp2_with fail
             go_quiet (fail)
             go_wp2_with fail
             go_ret
             exact ⟨retb hr.out, (KX.out.trans (HQ2.out.kept _)).drewN _⟩
            | false =>
             rw [hq] at hstep
             have hr : Hid (wordHit t.name (startsAt gv (j + 1)) (gv.drop (j + 1)) = r) := Lib.hid (by rw [← hstep]; simp)
             clear hend hword hstep hne hjm
             go_wp2_with fail
             go_quiet (fail)
             go_wp2_with fail
             go_roundw
             case measure => simp [intOf]; omega
             case rel => exact ⟨j + 1, by omega, by go_num, Lib.hid (HQ2.out.trans ⟨nq, rfl⟩), hr⟩
           ·have hmj : m = j := by omega
            have d1 : decide ((j : Int) < (m : Int)) = false := by simp; omega
            have d2 : decide (j < m) = false := by simp; omega
            have d3 : ((j : Int) < (m : Int)) = False := by simp; omega
            have d4 : (j < m) = False := by simp; omega
            have hne : (gv.drop j).take (m - j) = [] := by rw [hmj]; simp
            rw [hne] at hstep
            have hr : Hid (wordHit t.name (startsAt gv (j + 1)) (gv.drop (j + 1)) = r) := Lib.hid (by rw [← hstep]; simp)
            clear hend hword hstep hne hjm hmj
            go_wp2_with fail
            go_quiet (fail)
            go_wp2_with fail
            go_roundw
            case measure => simp [intOf]; omega
            case rel => exact ⟨j + 1, by omega, by go_num, Lib.hid (HQ2.out.trans ⟨nq, rfl⟩), hr⟩
          ·have hcI2 : (((gv[m]).toNat : Int) != 32) = true := by
            simp only [bne_iff_ne, ne_eq]
            intro e
            exact hc (UInt8.toNat_inj.1 (by have : (32 : UInt8).toNat = 32 := rfl; omega))
           have hnx : Hid ((gv.drop j).takeWhile notBlank = (gv.drop j).take (m + 1 - j) ++ (gv.drop (m + 1)).takeWhile notBlank) := Lib.hid (by
            have hb : notBlank gv[m] = true := by simp [notBlank, hc]
            rw [hT.out, hd, List.takeWhile_cons, if_pos hb, show m + 1 - j = (m - j) + 1 from by omega, List.take_add_one]
            have : (gv.drop j)[m - j]? = some gv[m] := by rw [List.getElem?_drop, show j + (m - j) = m from by omega, List.getElem?_eq_getElem hml]
            rw [this]
            simp)
           clear hd hc
           go_wp2_with fail
           go_roundw
           case measure => simp [intOf]; omega
           case rel => exact ⟨m + 1, by omega, by omega, by go_num, HQ2, hnx⟩
         ·have hend : (gv.drop m).takeWhile notBlank = [] := by rw [List.drop_of_length_le (by omega)]; rfl
          have hmy : m = gv.length := by omega
          have hmx : (m < gv.length) = False := by simp; omega
          have c1' := (HQ2.out.kept (fun _ => False)).cell id c1
          have hword : (gv.drop j).takeWhile notBlank = (gv.drop j).take (m - j) := by rw [hT.out, hend, List.append_nil]
          have hstep := word_step HW.out
          rw [hword] at hstep
          by_cases hjm : j < m
          ·have hne : ((gv.drop j).take (m - j)).isEmpty = false := by
            rw [List.isEmpty_eq_false_iff]
            intro e
            have := congrArg List.length e
            simp at this
            omega
           rw [hne] at hstep
           have d1 : decide ((j : Int) < (m : Int)) = true := by simp; omega
           have d2 : decide (j < m) = true := by simp; omega
           have d3 : ((j : Int) < (m : Int)) = True := by simp; omega
           have d4 : (j < m) = True := by simp; omega
           have b1 : (0 : Int) ≤ (j : Int) := by omega
           have b2 : (j : Int) ≤ (m : Int) := by omega
           have b3 : (m : Int) ≤ (gv.length : Int) := by omega
           have b4 : j ≤ m := by omega
           cases hq : ((gv.drop j).take (m - j) == t.name) with
           | true =>
            rw [hq] at hstep
            have hr : Hid (true = r) := Lib.hid (by rw [← hstep]; simp)
            clear hend hword hstep hne hjm hmy
            go_wp2_with fail
            go_quiet (fail)
            go_wp2_with fail
            go_ret
            exact ⟨retb hr.out, (KX.out.trans (HQ2.out.kept _)).drewN _⟩
           | false =>
            rw [hq] at hstep
            have hr : Hid (wordHit t.name (startsAt gv (j + 1)) (gv.drop (j + 1)) = r) := Lib.hid (by rw [← hstep]; simp)
            clear hend hword hstep hne hjm hmy
            go_wp2_with fail
            go_quiet (fail)
            go_wp2_with fail
            go_roundw
            case measure => simp [intOf]; omega
            case rel => exact ⟨j + 1, by omega, by go_num, Lib.hid (HQ2.out.trans ⟨nq, rfl⟩), hr⟩
          ·have hmj : m = j := by omega
           have d1 : decide ((j : Int) < (m : Int)) = false := by simp; omega
           have d2 : decide (j < m) = false := by simp; omega
           have d3 : ((j : Int) < (m : Int)) = False := by simp; omega
           have d4 : (j < m) = False := by simp; omega
           have hne : (gv.drop j).take (m - j) = [] := by rw [hmj]; simp
           rw [hne] at hstep
           have hr : Hid (wordHit t.name (startsAt gv (j + 1)) (gv.drop (j + 1)) = r) := Lib.hid (by rw [← hstep]; simp)
           clear hend hword hstep hne hjm hmj hmy
           go_wp2_with fail
           go_quiet (fail)
           go_wp2_with fail
           go_roundw
           case measure => simp [intOf]; omega
           case rel => exact ⟨j + 1, by omega, by go_num, Lib.hid (HQ2.out.trans ⟨nq, rfl⟩), hr⟩
   ·have e2 : (t.kind == 2) = false := by simp [h2]
    by_cases h3 : t.kind = 3
    ·have e3 : (t.kind == 3) = true := by simp [h3]
     have HK2 : keyOf t = idName := by unfold keyOf; rw [if_neg h2, if_pos h3]
     have HRR : Hid ((gb && gv == t.name) = r) := Lib.hid (by
      rw [← hR.out]; unfold mTestN; rw [if_neg h1, if_neg h2, if_pos h3, ← HK2, HG.out])
     clear h1 h2 h3 HK2
     cases gb with
     | true =>
      go_wp2_with fail
      go_ret
      exact ⟨retb HRR.out, KX.out⟩
     | false =>
      go_wp2_with fail
      go_ret
      exact ⟨retb HRR.out, KX.out⟩
    ·have e3 : (t.kind == 3) = false := by simp [h3]
     by_cases h4 : t.kind = 4
     ·have e4 : (t.kind == 4) = true := by simp [h4]
      have HK2 : keyOf t = t.name := by unfold keyOf; rw [if_neg h2, if_neg h3, if_pos (.inl h4)]
      have HRR : Hid (gb = r) := Lib.hid (by
       rw [← hR.out]; unfold mTestN; rw [if_neg h1, if_neg h2, if_neg h3, if_pos h4, ← HK2, HG.out])
      clear h1 h2 h3 h4 HK2
      go_wp2_with fail
      go_ret
      exact ⟨retb HRR.out, KX.out⟩
     ·have e4 : (t.kind == 4) = false := by simp [h4]
      by_cases h5 : t.kind = 5
      ·have e5 : (t.kind == 5) = true := by simp [h5]
       have HK2 : keyOf t = t.name := by unfold keyOf; rw [if_neg h2, if_neg h3, if_pos (.inr h5)]
       have HRR : Hid ((gb && gv == t.val) = r) := Lib.hid (by
        rw [← hR.out]; unfold mTestN; rw [if_neg h1, if_neg h2, if_neg h3, if_neg h4, if_pos h5, ← HK2, HG.out])
       clear h1 h2 h3 h4 h5 HK2
       cases gb with
       | true =>
        go_wp2_with fail
        go_ret
        exact ⟨retb HRR.out, KX.out⟩
       | false =>
        go_wp2_with fail
        go_ret
        exact ⟨retb HRR.out, KX.out⟩
      ·have e5 : (t.kind == 5) = false := by simp [h5]
       by_cases h6 : t.kind = 6
       ·have e6 : (t.kind == 6) = true := by simp [h6]
        have HRR : Hid (decide (pAhead ns (k : Int) < 0) = r) := Lib.hid (by rw [← hR.out]; unfold mTestN; rw [if_neg h1, if_neg h2, if_neg h3, if_neg h4, if_neg h5, if_pos h6])
        clear h1 h2 h3 h4 h5 h6
        have hkk : -9223372036854775808 ≤ (k : Int) ∧ (k : Int) ≤ 9223372036854775807 := by omega
        have HKK := Lib.hid hkk
        go_wp2_with (go_at_call 147; refine (rahead_any _ _ ns (k : Int) HVX.out HKK.out).mono ?_; rintro e w5 ⟨rfl, hq5⟩)
        go_ret
        exact ⟨retb (by rw [← HRR.out]), KX.out.trans (hq5.kept _)⟩
       ·have e6 : (t.kind == 6) = false := by simp [h6]
        have HRR : Hid (false = r) := Lib.hid (by rw [← hR.out]; unfold mTestN; rw [if_neg h1, if_neg h2, if_neg h3, if_neg h4, if_neg h5, if_neg h6])
        clear h1 h2 h3 h4 h5 h6
        go_wp2_with fail
        go_ret
        exact ⟨retb HRR.out, KX.out⟩
end Go.Proofs.YtplbdlgmjehckacGreatDoor

