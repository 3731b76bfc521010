/-
  Lemmas for the claims of this seat: the program's functions walked, and plain laws. In this order: ShParse2 PrSmall PrExpand PrAll.
-/
import Derived.Test.YtplbdlgmjehckadGreatDoorPk12
import Derived.Test.YtplbdlgmjehckadGreatDoorPk11
import Derived.Test.YtplbdlgmjehckadGreatDoorPk3
import Derived.Deep.Onto
import Derived.Test.YtplbdlgmjehckadGreatDoorPk4
import Derived.Test.YtplbdlgmjehckadGreatDoorPk9
import Derived.Deep.DeepCutAuto
import Derived.Deep.CutBlock
import Derived.Deep.Light
import Derived.Test.YtplbdlgmjehckadGreatDoorPk14
import Derived.Test.YtplbdlgmjehckadGreatDoorPk13
import Derived.Deep.AppendLies
import Derived.Deep.LoopGhost
import Derived.Deep.RegionHeld3
namespace Go.Proofs.YtplbdlgmjehckadGreatDoor
open Go.RowKit
set_option linter.unusedVariables false
set_option linter.unusedSimpArgs false
set_option maxHeartbeats 400000 in
theorem sclear_Decls (fb lb : Nat) (err pos : Int) (u : FrameMode) (w : World) (v : Value) (hf : w.heap[fb]? = some (.cells #[.int .i64 err, .int .i64 pos] 26 (0,0))) (hl : w.heap[lb]? = some (.cells #[v] 45 (0,0))) (he : (err != 0) = true) :
    CallsD Tryz.prog 44 #[.pointer (some ⟨fb, 0, none⟩), .pointer (some ⟨lb, 0, none⟩)] u w fun e u' w' => u' = u ∧ (e = .returned (.tuple #[]) ∧ Kept (· = lb) w w' ∧ w'.heap[lb]? = some (.cells #[.slice none 0 0] 45 (0,0))) := by
  refine callsD_of_wp Tryz.func44 rfl ?_
  have g0 := cellIn hf 0 rfl
  have l0 := cellIn hl 0 rfl
  have lf := freeIn hl 0
  simp [Tryz.ntmps44]
  simp only [Array.replicate_succ, Array.replicate_zero, List.push_toArray, List.append_toArray, List.nil_append, List.cons_append]
  go_wp2
  go_end0
  exact ⟨rfl, (Kept.refl (· = lb) w).setCell (p := ⟨lb, 0, none⟩) (.inl rfl) _, setIn hl 0 _⟩
set_option maxHeartbeats 400000 in
theorem sclear_Decls_idle (fb lb : Nat) (pos : Int) (u : FrameMode) (w : World) (hf : w.heap[fb]? = some (.cells #[.int .i64 0, .int .i64 pos] 26 (0,0))) :
    CallsD Tryz.prog 44 #[.pointer (some ⟨fb, 0, none⟩), .pointer (some ⟨lb, 0, none⟩)] u w fun e u' w' => u' = u ∧ (e = .returned (.tuple #[]) ∧ w' = w) := by
  refine callsD_of_wp Tryz.func44 rfl ?_
  have g0 := cellIn hf 0 rfl
  simp [Tryz.ntmps44]
  simp only [Array.replicate_succ, Array.replicate_zero, List.push_toArray, List.append_toArray, List.nil_append, List.cons_append]
  go_wp2
  go_end0
  exact ⟨rfl, rfl⟩
def SDeclsEnds (w : World) (r : Ans (List PDecl)) (e : Ending) (w' : World) : Prop :=
  match r with
  | .bad f => e = .returned (.tuple #[.slice none 0 0, .agg #[.int .i64 (f.err : Int), .int .i64 (f.pos : Int)]]) ∧ Below w.heap.size w w'
  | .ok rs => ∃ v, e = .returned (.tuple #[v, .agg #[.int .i64 0, .int .i64 0]]) ∧ Below w.heap.size w w' ∧ DeclsIn w' (fun k => k < w.heap.size) v rs
def dStart (w : World) (s : B) : World :=
  ((w.alloc (.cells #[.slice none 0 0] 45 (0,0))).alloc (.cells #[.int .i64 0, .int .i64 0] 26 (0,0))).alloc (.cells #[.string (str s), .int .i64 0] 115 (0,0))
theorem dstart_size (w : World) (s : B) : (dStart w s).heap.size = w.heap.size + 3 := by simp [dStart]
theorem dstart_kept (w : World) (s : B) : Kept (fun _ => False) w (dStart w s) := (((Kept.refl (fun _ => False) w).alloc _).alloc _).alloc _
theorem dstart_l (w : World) (s : B) : (dStart w s).heap[w.heap.size]? = some (.cells #[.slice none 0 0] 45 (0,0)) := oldIn (oldIn (newIn w _) _) _
theorem dstart_f (w : World) (s : B) : (dStart w s).heap[w.heap.size + 1]? = some (.cells #[.int .i64 0, .int .i64 0] 26 (0,0)) := by
  have := newIn (w.alloc (.cells #[.slice none 0 0] 45 (0,0))) (.cells #[.int .i64 0, .int .i64 0] 26 (0,0))
  simp only [show (w.alloc (.cells #[.slice none 0 0] 45 (0,0))).heap.size = w.heap.size + 1 from by simp] at this
  exact oldIn this _
theorem dstart_rd (w : World) (s : B) (hs : s.length ≤ 4000) : SdAt (dStart w s) (w.heap.size + 2) s 0 := by
  refine ⟨?_, Nat.zero_le _, hs⟩
  have := newIn ((w.alloc (.cells #[.slice none 0 0] 45 (0,0))).alloc (.cells #[.int .i64 0, .int .i64 0] 26 (0,0))) (.cells #[.string (str s), .int .i64 0] 115 (0,0))
  simp only [show ((w.alloc (.cells #[.slice none 0 0] 45 (0,0))).alloc (.cells #[.int .i64 0, .int .i64 0] 26 (0,0))).heap.size = w.heap.size + 2 from by simp] at this
  exact this
set_option maxRecDepth 100000 in
set_option maxHeartbeats 3200000 in
theorem sdeclsOf_any (s : B) (w : World) (m : Int) (hm : w.cell? ⟨0, 0, none⟩ = some (.int .i64 m)) (hs : s.length ≤ 9223372036854775807) :
    Calls Tryz.prog 23 #[.string (str s)] w (SDeclsEnds w (sDeclsOf s)) := by
  obtain ⟨r, HR⟩ : ∃ r, Hid (sDeclsOf s = r) := ⟨_, rfl⟩
  rw [HR.out]
  have h0 : 0 < w.heap.size := World.block_lt_of_cell? w _ hm
  have HM := Lib.hid hm
  clear hm
  have hmf : ∀ (fn : Fn) (first cap : Array Value) (w : World), (Instr.makeFunc fn first cap).run Tryz.prog w = .ok (.func fn first cap) w := fun _ _ _ _ => rfl
  by_cases hl : 4000 < s.length
  · obtain rfl : r = .bad ⟨4, 0⟩ := by rw [← HR.out]; unfold sDeclsOf; rw [if_pos hl]
    have hlI : 4000 < (s.length : Int) := by omega
    have hsz : ((str s).size : Int) = s.length := by rw [str_size]
    go_enter_defers Tryz.func23, Tryz.ntmps23
    go_wp2
    clear hmf HR HM
    simp [bodyPostD, Leaves, settle, results, Tryz.results23, go_sem]
    exact ⟨rfl, (((Kept.refl (fun _ => False) w).alloc _).alloc _).below⟩
  · have hE : (sDecls s 0).then (fun x => if x.2.1 = [] then Ans.ok x.1 else .bad ⟨2, x.2.2⟩) = r := by
      rw [← HR.out]; unfold sDeclsOf; rw [if_neg hl]
    have HE := Lib.hid hE
    clear hE
    have hsz : ((str s).size : Int) = s.length := by rw [str_size]
    go_enter_defers Tryz.func23, Tryz.ntmps23
    go_wp2_with fail
    refine (sdecls_sum (dStart w s) (w.heap.size + 2) s 0 m ?_ ?_ (by omega)).mono ?_
    · exact dstart_rd w s (by omega)
    · exact (dstart_kept w s).cell (fun h => h) HM.out
    · rw [List.drop_zero]
      have hk0 := dstart_kept w s
      have hl0 := dstart_l w s
      have hf0 := dstart_f w s
      change ∀ (e : Ending) (w' : World), SSum _ (dStart w s) _ _ _ e w' → _
      have HK0 := Lib.hid hk0
      have HL0 := Lib.hid hl0
      have HF0 := Lib.hid hf0
      have hsz0 := dstart_size w s
      clear hk0 hl0 hf0
      generalize dStart w s = w0 at *
      rintro e w' (⟨f, rfl, hk, hp⟩ | ⟨rs', at', ⟨v', rfl, hdone⟩, hk, hrd, hp⟩)
      · have HBAD := Lib.hid (sdeclsOf_bad (s := s) (f := f) (by rw [HR.out, ← HE.out, hp.out]; rfl))
        obtain rfl : r = .bad f := by rw [← HE.out, hp.out]; rfl
        have hl1 := hk.heap (fun (hs : _ = _) => by omega) HL0.out
        have hf1 := hk.heap (fun (hs : _ = _) => by omega) HF0.out
        clear hmf HR HE HM hp
        simp only [bodyPostD]
        refine leaves_cons (f := 40) (args := #[.pointer (some ⟨w.heap.size + 1, 0, none⟩)]) (by simp) (by simp [go_sem]) ?_
        refine (sguard_panicking (w.heap.size + 1) f w' _ _ hf1).mono ?_
        rintro e u' w2 ⟨rfl, rfl, hk2, hf2⟩
        have hl2 := hk2.heap (by omega) hl1
        have hne : ((f.err : Int) != 0) = true := by have := HBAD.out.1; simp; omega
        refine leaves_cons (f := 44) (args := #[.pointer (some ⟨w.heap.size + 1, 0, none⟩), .pointer (some ⟨w.heap.size, 0, none⟩)]) (by simp [settle]) (by simp [go_sem]) ?_
        refine (sclear_Decls (w.heap.size + 1) w.heap.size f.err f.pos _ w2 _ hf2 hl2 hne).mono ?_
        rintro e u' w3 ⟨rfl, rfl, hk3, hl3⟩
        have hf3 := hk3.heap (by omega) hf2
        have l0 := cellIn hl3 0 rfl
        have g0 := cellIn hf3 0 rfl
        have g1 := cellIn hf3 1 rfl
        simp [Leaves, settle, results, Tryz.results23, go_sem, l0, g0, g1]
        exact ⟨rfl, (((HK0.out.trans' hk (fun i hi (hs : i = _) => by omega)).trans' hk2 (fun i hi (hs : i = _) => by omega)).trans' hk3 (fun i hi (hs : i = _) => by omega)).below⟩
      · have hr : (if s.drop at' = [] then Ans.ok rs' else .bad ⟨2, at'⟩) = r := by rw [← HE.out, hp.out]; rfl
        obtain ⟨a9, c9, rfl⟩ : ∃ a cap, v' = .slice a rs'.length cap := by
          obtain ⟨a, cap, e, _⟩ := hdone.1
          exact ⟨a, cap, by rw [e, List.length_map]⟩
        have hat : at' ≤ s.length := hrd.2.1
        have c0 := hrd.c0
        have c1 := hrd.c1
        have hl1 := hk.heap (fun (hs : _ = _) => by omega) HL0.out
        have hf1 := hk.heap (fun (hs : _ = _) => by omega) HF0.out
        have l0 : w'.cell? ⟨w.heap.size, 0, none⟩ = some (.slice none 0 0) := cellIn hl1 0 rfl
        have l0f := freeIn hl1 0
        have g0 : w'.cell? ⟨w.heap.size + 1, 0, none⟩ = some (.int .i64 0) := cellIn hf1 0 rfl
        have g1 : w'.cell? ⟨w.heap.size + 1, 1, none⟩ = some (.int .i64 0) := cellIn hf1 1 rfl
        have g0f := freeIn hf1 0
        have g1f := freeIn hf1 1
        have HF := Lib.hid hf1
        have HL := Lib.hid hl1
        have HRD := Lib.hid hrd
        have HDN := Lib.hid hdone
        have HR0 := Lib.hid hr
        clear hl1 hf1 hrd hdone hr hp
        by_cases hend : at' = s.length
        · obtain rfl : r = .ok rs' := by rw [← HR0.out, if_pos (by rw [hend]; simp)]
          have hd : decide ((at' : Int) < (s.length : Int)) = false := by simp; omega
          subst hend
          clear HR0
          go_wp2_with fail
          go_region
          go_wp2_with fail
          clear hmf HR HM
          simp only [bodyPostD]
          refine leaves_cons (f := 40) (args := #[.pointer (some ⟨w.heap.size + 1, 0, none⟩)]) (by simp) (by simp [go_sem]) ?_
          refine (sguard_idle _ _).mono ?_
          rintro e u' w2 ⟨rfl, rfl, hw2⟩
          have hkF : Kept (fun k => k = w.heap.size ∨ k = w.heap.size + 1) w' w2 := by
            rw [hw2]
            exact (((((Kept.refl _ w').setCell (p := ⟨w.heap.size, 0, none⟩) (.inl (.inl rfl)) _).setCell (p := ⟨w.heap.size, 0, none⟩) (.inl (.inl rfl)) _).setCell (p := ⟨w.heap.size + 1, 0, none⟩) (.inl (.inr rfl)) _).setCell (p := ⟨w.heap.size + 1, 1, none⟩) (.inl (.inr rfl)) _).drew
          have l1 : w2.cell? ⟨w.heap.size, 0, none⟩ = some (.slice a9 rs'.length c9) := by
            rw [hw2]
            exact cellIn (otherIn (otherIn (setIn (setIn HL.out 0 (.slice a9 rs'.length c9)) 0 (.slice a9 rs'.length c9)) ⟨w.heap.size + 1, 0, none⟩ _ (by show w.heap.size ≠ w.heap.size + 1; omega)) ⟨w.heap.size + 1, 1, none⟩ _ (by show w.heap.size ≠ w.heap.size + 1; omega)) 0 rfl
          have hf2 : w2.heap[w.heap.size + 1]? = some (.cells #[.int .i64 0, .int .i64 0] 26 (0, 0)) := by
            rw [hw2]
            exact setIn (setIn (otherIn (otherIn HF.out ⟨w.heap.size, 0, none⟩ (.slice a9 rs'.length c9) (by show w.heap.size + 1 ≠ w.heap.size; omega)) ⟨w.heap.size, 0, none⟩ (.slice a9 rs'.length c9) (by show w.heap.size + 1 ≠ w.heap.size; omega)) 0 (.int .i64 0)) 1 (.int .i64 0)
          clear hw2 l0 g0 g1
          refine leaves_cons (f := 44) (args := #[.pointer (some ⟨w.heap.size + 1, 0, none⟩), .pointer (some ⟨w.heap.size, 0, none⟩)]) (by simp [settle]) (by simp [go_sem]) ?_
          refine (sclear_Decls_idle (w.heap.size + 1) w.heap.size 0 _ w2 hf2).mono ?_
          rintro e u' w3 ⟨rfl, rfl, rfl⟩
          have g2 : w3.cell? ⟨w.heap.size + 1, 0, none⟩ = some (.int .i64 0) := cellIn hf2 0 rfl
          have g3 : w3.cell? ⟨w.heap.size + 1, 1, none⟩ = some (.int .i64 0) := cellIn hf2 1 rfl
          simp [Leaves, settle, results, Tryz.results23, go_sem, l1, g2, g3]
          refine ⟨_, rfl, ((HK0.out.trans' hk (fun i hi (hs : i = _) => by omega)).trans' hkF (fun i hi hs => by rcases hs with hs | hs <;> omega)).below, ?_⟩
          exact decls_lasts _ _ _ _ _ _ _ HDN.out hkF (fun k _ hs => by rcases hs with hs | hs <;> (show k < w0.heap.size; omega)) (fun k _ (hx : k < w.heap.size) => by show k < w0.heap.size; omega)
        · obtain rfl : r = .bad ⟨2, at'⟩ := by
            rw [← HR0.out, if_neg]
            intro he
            have := congrArg List.length he
            simp at this
            omega
          have hd : (at' : Int) < (s.length : Int) := by omega
          clear HR0
          go_wp2_with fail
          have hrd2 : SdAt (w'.setCell ⟨w.heap.size, 0, none⟩ (.slice a9 rs'.length c9)) (w.heap.size + 2) s at' := ⟨otherIn HRD.out.1 ⟨w.heap.size, 0, none⟩ _ (by show w.heap.size + 2 ≠ w.heap.size; omega), HRD.out.2⟩
          refine (sfail_any 2 _ _ s at' hrd2).mono ?_
          rintro e w1 ⟨rfl, hq⟩
          have hl3 := (hq.kept (fun _ => False)).heap id (setIn HL.out 0 (.slice a9 rs'.length c9))
          have hf3 := (hq.kept (fun _ => False)).heap id (otherIn HF.out ⟨w.heap.size, 0, none⟩ (.slice a9 rs'.length c9) (by show w.heap.size + 1 ≠ w.heap.size; omega))
          have hk3 : Kept (fun k => k = w.heap.size ∨ k = w.heap.size + 2) w0 w1 := ((hk.mono (fun k _ hs => .inr hs)).setCell (p := ⟨w.heap.size, 0, none⟩) (.inl (.inl rfl)) _).trans (hq.kept _)
          have hne : (((2 : Nat) : Int) != 0) = true := by decide
          clear hmf HR HM hq
          simp only [bodyPostD]
          refine leaves_cons (f := 40) (args := #[.pointer (some ⟨w.heap.size + 1, 0, none⟩)]) (by simp) (by simp [go_sem]) ?_
          refine (sguard_panicking (w.heap.size + 1) ⟨2, at'⟩ w1 _ _ hf3).mono ?_
          rintro e u' w2 ⟨rfl, rfl, hk4, hf2⟩
          have hl2 := hk4.heap (by omega) hl3
          refine leaves_cons (f := 44) (args := #[.pointer (some ⟨w.heap.size + 1, 0, none⟩), .pointer (some ⟨w.heap.size, 0, none⟩)]) (by simp [settle]) (by simp [go_sem]) ?_
          refine (sclear_Decls (w.heap.size + 1) w.heap.size _ _ _ w2 _ hf2 hl2 hne).mono ?_
          rintro e u' w3 ⟨rfl, rfl, hk5, hl4⟩
          have hf4 := hk5.heap (by omega) hf2
          have l0 := cellIn hl4 0 rfl
          have g0 := cellIn hf4 0 rfl
          have g1 := cellIn hf4 1 rfl
          simp [Leaves, settle, results, Tryz.results23, go_sem, l0, g0, g1]
          exact ⟨rfl, (((HK0.out.trans' hk3 (fun i hi hs => by rcases hs with hs | hs <;> omega)).trans' hk4 (fun i hi (hs : i = _) => by omega)).trans' hk5 (fun i hi (hs : i = _) => by omega)).below⟩
end Go.Proofs.YtplbdlgmjehckadGreatDoor

namespace Go.Proofs.YtplbdlgmjehckadGreatDoor
open Go.RowKit
set_option linter.unusedVariables false
set_option linter.unusedSimpArgs false
set_option maxHeartbeats 400000 in
theorem inherits_any (n : B) (w : World) : Calls Tryz.prog 27 #[.string (str n)] w fun e w' => e = .returned (.bool (pInherits n)) ∧ w' = w := by
  obtain ⟨r, HR⟩ : ∃ r, Hid (pInherits n = r) := ⟨_, rfl⟩
  rw [HR.out]
  go_enter Tryz.func27, Tryz.ntmps27
  go_wp2
  all_goals
    go_ret
    exact ⟨retb (by rw [← HR.out]; simp_all [pInherits, colorName, fontName, sizeName]), rfl⟩
set_option maxHeartbeats 800000 in
theorem initial_any (n : B) (w : World) : Calls Tryz.prog 28 #[.string (str n)] w fun e w' => e = .returned (.string (str (pInitial n))) ∧ w' = w := by
  obtain ⟨r, HR⟩ : ∃ r, Hid (pInitial n = r) := ⟨_, rfl⟩
  rw [HR.out]
  go_enter Tryz.func28, Tryz.ntmps28
  go_wp2
  all_goals
    go_ret
    refine ⟨?_, rfl⟩
    rw [← HR.out]
    simp_all [pInitial, colorName, fontName, sizeName, edgeTop, edgeRight, edgeBottom, edgeLeft]
    try rfl
def sidesV : Value := .agg #[.string (str edgeTop), .string (str edgeRight), .string (str edgeBottom), .string (str edgeLeft)]
set_option maxHeartbeats 400000 in
theorem sides_any (w : World) : Calls Tryz.prog 75 #[] w fun e w' => e = .returned sidesV ∧ Below w.heap.size w w' := by
  go_enter Tryz.func75, Tryz.ntmps75
  go_wp2
  refine bodyPost_ret (v := sidesV) (by simp [results, Tryz.results75, go_sem]; rfl) rfl ?_
  exact ⟨rfl, (Below.refl _ _).alloc (Nat.le_refl _) _⟩
end Go.Proofs.YtplbdlgmjehckadGreatDoor

namespace Go.Proofs.YtplbdlgmjehckadGreatDoor
open Go.RowKit
set_option linter.unusedVariables false
set_option linter.unusedSimpArgs false
def declV (d : PDecl) : Value := .agg #[.string (str d.name), .string (str d.val), .bool d.strong]
@[reducible] def quad (a b c d : Int) : Value := .agg #[.int .i64 a, .int .i64 b, .int .i64 c, .int .i64 d]
@[reducible] def exE1 : MapEntry := ⟨.int .i64 1, quad 0 0 0 0, 0⟩
@[reducible] def exE2 : MapEntry := ⟨.int .i64 2, quad 0 1 0 1, 1⟩
@[reducible] def exE3 : MapEntry := ⟨.int .i64 3, quad 0 1 2 1, 2⟩
@[reducible] def exE4 : MapEntry := ⟨.int .i64 4, quad 0 1 2 3, 3⟩
def exWhich : Nat → Option (Int × Int × Int × Int)
  | 1 => some (0, 0, 0, 0)
  | 2 => some (0, 1, 0, 1)
  | 3 => some (0, 1, 2, 1)
  | 4 => some (0, 1, 2, 3)
  | _ => none
theorem ex_look (w2 : World) (n : Nat) : (Instr.lookup 158 (.map (some w2.heap.size)) (.int .i64 (n : Int)) true).run Tryz.prog (w2.alloc (.map #[exE1, exE2, exE3, exE4] 4)) =
    .ok (.tuple #[match exWhich n with | some (a, b, c, d) => quad a b c d | none => quad 0 0 0 0, .bool (exWhich n).isSome]) (w2.alloc (.map #[exE1, exE2, exE3, exE4] 4)) := by
  have hb := newIn w2 (.map #[exE1, exE2, exE3, exE4] 4)
  match n with
  | 0 => exact run_look_miss Tryz.underlying158 Tryz.underlying3 hb (by rfl) (by rfl) (by kernel_rfl) true
  | 1 => exact run_look_hit (i := 0) Tryz.underlying158 Tryz.underlying3 hb (by rfl) (by rfl) true
  | 2 => exact run_look_hit (i := 1) Tryz.underlying158 Tryz.underlying3 hb (by rfl) (by rfl) true
  | 3 => exact run_look_hit (i := 2) Tryz.underlying158 Tryz.underlying3 hb (by rfl) (by rfl) true
  | 4 => exact run_look_hit (i := 3) Tryz.underlying158 Tryz.underlying3 hb (by rfl) (by rfl) true
  | n + 5 =>
    refine run_look_miss Tryz.underlying158 Tryz.underlying3 hb (by rfl) ?_ (by kernel_rfl) true
    have h1 : (((n + 5 : Nat) : Int) == 1) = false := by simp; omega
    have h2 : (((n + 5 : Nat) : Int) == 2) = false := by simp; omega
    have h3 : (((n + 5 : Nat) : Int) == 3) = false := by simp; omega
    have h4 : (((n + 5 : Nat) : Int) == 4) = false := by simp; omega
    simp only [Instr.findNow, Instr.sameNow, if_true, h1, h2, h3, h4]
theorem ex_ins1 (w2 : World) : (Instr.mapUpdate 158 (.map (some w2.heap.size)) (.int .i64 1) (quad 0 0 0 0)).run Tryz.prog (w2.alloc (.map #[] 0)) = .ok () (w2.alloc (.map #[exE1] 1)) :=
  run_insert_top Tryz.underlying158 Tryz.underlying3 w2 (by rfl) (by rfl)
theorem ex_ins2 (w2 : World) : (Instr.mapUpdate 158 (.map (some w2.heap.size)) (.int .i64 2) (quad 0 1 0 1)).run Tryz.prog (w2.alloc (.map #[exE1] 1)) = .ok () (w2.alloc (.map #[exE1, exE2] 2)) :=
  run_insert_top Tryz.underlying158 Tryz.underlying3 w2 (by rfl) (by rfl)
theorem ex_ins3 (w2 : World) : (Instr.mapUpdate 158 (.map (some w2.heap.size)) (.int .i64 3) (quad 0 1 2 1)).run Tryz.prog (w2.alloc (.map #[exE1, exE2] 2)) = .ok () (w2.alloc (.map #[exE1, exE2, exE3] 3)) :=
  run_insert_top Tryz.underlying158 Tryz.underlying3 w2 (by rfl) (by rfl)
theorem ex_ins4 (w2 : World) : (Instr.mapUpdate 158 (.map (some w2.heap.size)) (.int .i64 4) (quad 0 1 2 3)).run Tryz.prog (w2.alloc (.map #[exE1, exE2, exE3] 3)) = .ok () (w2.alloc (.map #[exE1, exE2, exE3, exE4] 4)) :=
  run_insert_top Tryz.underlying158 Tryz.underlying3 w2 (by rfl) (by rfl)
def sideName : Nat → B
  | 0 => edgeTop
  | 1 => edgeRight
  | 2 => edgeBottom
  | _ => edgeLeft
theorem side_at0 (w : World) : (Instr.index 159 sidesV (.int .i64 0)).run Tryz.prog w = .ok (.string (str edgeTop)) w := by kernel_rfl
theorem side_at1 (w : World) : (Instr.index 159 sidesV (.int .i64 1)).run Tryz.prog w = .ok (.string (str edgeRight)) w := by kernel_rfl
theorem side_at2 (w : World) : (Instr.index 159 sidesV (.int .i64 2)).run Tryz.prog w = .ok (.string (str edgeBottom)) w := by kernel_rfl
theorem side_at3 (w : World) : (Instr.index 159 sidesV (.int .i64 3)).run Tryz.prog w = .ok (.string (str edgeLeft)) w := by kernel_rfl
theorem side_at (k : Nat) (hk : k < 4) (w : World) : (Instr.index 159 sidesV (.int .i64 (k : Int))).run Tryz.prog w = .ok (.string (str (sideName k))) w := by
  match k, hk with
  | 0, _ => exact side_at0 w
  | 1, _ => exact side_at1 w
  | 2, _ => exact side_at2 w
  | 3, _ => exact side_at3 w
theorem four_at {la lb lc ld : B} {st : Bool} {L : List B} {a b c d : Nat} (ha : L[a]? = some la) (hb : L[b]? = some lb) (hc : L[c]? = some lc) (hd : L[d]? = some ld) (k : Nat) (hk : k < 4) :
    ∃ (j : Nat) (x : B), (#[Value.int .i64 a, .int .i64 b, .int .i64 c, .int .i64 d])[k]? = some (.int .i64 (j : Int)) ∧ L[j]? = some x ∧ (edges la lb lc ld st)[k]? = some ⟨sideName k, x, st⟩ := by
  match k, hk with
  | 0, _ => exact ⟨a, la, rfl, ha, rfl⟩
  | 1, _ => exact ⟨b, lb, rfl, hb, rfl⟩
  | 2, _ => exact ⟨c, lc, rfl, hc, rfl⟩
  | 3, _ => exact ⟨d, ld, rfl, hd, rfl⟩
structure ELoop (w3 wr : World) (base : Nat) (l : Value) (X : List PDecl) (k : Nat) : Prop where
  own : wr.ownsRow base 98 3 l k ((X.take k).map declCells).flatten
  kept : Kept (fun _ => False) w3 wr
theorem ELoop.form {w3 wr : World} {base : Nat} {l : Value} {X : List PDecl} {k : Nat} (h : ELoop w3 wr base l X k) : ∃ vo vc, l = .slice vo k vc := by
  rcases h.own.2 with ⟨h, hn⟩ | ⟨g, cap, cur, h, _⟩
  · exact ⟨none, 0, by rw [h, hn]⟩
  · exact ⟨_, cap, h⟩
theorem decl_one (d : PDecl) : ∀ u ∈ declCells d, u.oneCell' = true := by
  intro u hu
  simp only [declCells, List.mem_cons, List.not_mem_nil, or_false] at hu
  rcases hu with rfl | rfl | rfl <;> rfl
set_option maxRecDepth 100000 in
set_option maxHeartbeats 1600000 in
theorem expand_edge (nm val : B) (L : List B) (strong : Bool) (a b c d : Nat) (la lb lc ld : B) (w : World) (m : Int) (hm : w.cell? ⟨0, 0, none⟩ = some (.int .i64 m)) (hl : val.length ≤ 1048576) (hn : nm = edgeName) (hs : splitB val = L) (hw : exWhich L.length = some ((a : Int), (b : Int), (c : Int), (d : Int)))
    (ha : L[a]? = some la) (hb : L[b]? = some lb) (hc : L[c]? = some lc) (hd : L[d]? = some ld) :
  Calls Tryz.prog 43 #[.agg #[.string (str nm), .string (str val), .bool strong]] w fun e w' => ∃ v, e = .returned (.tuple #[v, .int .i64 0]) ∧ Below w.heap.size w w' ∧ DeclsIn w' (fun k => k < w.heap.size) v (edges la lb lc ld strong) := by
  have g : (nm == [101, 100, 103, 101]) = true := by simp [hn, edgeName]
  have HS := Lib.hid hs
  have HW := Lib.hid hw
  have hLl : L.length ≤ 1048577 := by have := splitB_len val; rw [hs] at this; omega
  obtain ⟨i0, hi0, hz0, hz1, hz2⟩ := info_parts info_decl
  obtain ⟨X, HX⟩ : ∃ X, Hid (edges la lb lc ld strong = X) := ⟨_, rfl⟩
  have HF := Lib.hid (four_at (st := strong) ha hb hc hd)
  rw [HX.out] at HF ⊢
  clear hn hs hw ha hb hc hd
  go_enter Tryz.func43, Tryz.ntmps43
  go_wp2_with fail
  refine (split_any val m _ (by omega) (by rw [World.cell?_alloc_old _ _ _ (by have := World.block_lt_of_cell? _ _ hm; dsimp at this ⊢; omega)]; exact hm)).mono ?_
  rintro e w2 ⟨rfl, hw2⟩
  rw [HS.out] at hw2 ⊢
  have hsz : w2.heap.size = w.heap.size + 1 + 1 := by rw [hw2]; simp
  have hdb := newIn w (.cells #[.string (str nm), .string (str val), .bool strong] 98 (0, 0))
  have hL := newIn (w.alloc (.cells #[.string (str nm), .string (str val), .bool strong] 98 (0, 0))) (.cells (L.map fun x => Value.string (str x)).toArray 9 (0, 0))
  have hd2 := oldIn hdb (.cells (L.map fun x => Value.string (str x)).toArray 9 (0, 0))
  have hb2 := ((Below.refl w.heap.size w).alloc (Nat.le_refl _) (.cells #[.string (str nm), .string (str val), .bool strong] 98 (0, 0))).alloc (by simp) (.cells (L.map fun x => Value.string (str x)).toArray 9 (0, 0))
  rw [← hw2] at hL hd2 hb2
  have eL : (w.alloc (.cells #[.string (str nm), .string (str val), .bool strong] 98 (0, 0))).heap.size = w.heap.size + 1 := by simp
  rw [eL] at hL
  have HB2 := Lib.hid hb2
  have HSZ := Lib.hid hsz
  have HD2 := Lib.hid hd2
  have HL2 := Lib.hid hL
  clear hw2 hdb hsz hb2 eL hd2 hL
  go_upto_region 4 with fail
  have e0 := run_made (P := Tryz.prog) w2 158
  have e1 := ex_ins1 w2
  have e2 := ex_ins2 w2
  have e3 := ex_ins3 w2
  have e4 := ex_ins4 w2
  have e5 := ex_look w2 L.length
  rw [HW.out] at e5
  simp only [Option.isSome_some] at e5
  go_wp2_with fail
  obtain ⟨w3, HW3⟩ : ∃ x, Hid ((w2.alloc (.map #[exE1, exE2, exE3, exE4] 4)).alloc (.cells #[.int .i64 a, .int .i64 b, .int .i64 c, .int .i64 d] 156 (0, 0)) = x) := ⟨_, rfl⟩
  rw [HW3.out]
  clear e0 e1 e2 e3 e4 e5
  refine (sides_any w3).mono ?_
  rintro e w4 ⟨rfl, hb4⟩
  have hq : w3.heap[w2.heap.size + 1]? = some (.cells #[.int .i64 a, .int .i64 b, .int .i64 c, .int .i64 d] 156 (0, 0)) := by
    rw [← HW3.out]
    have := newIn (w2.alloc (.map #[exE1, exE2, exE3, exE4] 4)) (.cells #[.int .i64 a, .int .i64 b, .int .i64 c, .int .i64 d] 156 (0, 0))
    simpa using this
  have k23 : Kept (fun _ => False) w2 w3 := by rw [← HW3.out]; exact ((Kept.refl _ w2).alloc _).alloc _
  have k34 : Kept (fun _ => False) w3 w4 := Kept.of_below hb4
  have hq4 := k34.heap id hq
  have k24 := k23.trans k34
  have HD4 := Lib.hid (k24.heap id HD2.out)
  have HL4 := Lib.hid (k24.heap id HL2.out)
  have HQ4 := Lib.hid hq4
  have HB4 := Lib.hid ((HB2.out).trans (k24.below.mono HB2.out.size))
  have HK := Lib.hid k24
  clear hb4 hq k23 k34 hq4 k24
  obtain ⟨base, HBASE⟩ : ∃ x, Hid (w4.heap.size = x) := ⟨_, rfl⟩
  go_upto_block 0 with fail
  go_cut [7] (fun l wx => ELoop w4 wx base l X 4)
  case first =>
    go_wp2_with fail
    go_loopw [7, 33] (fun l i wr => ∃ k : Nat, k ≤ 4 ∧ i = .int .i64 k ∧ ELoop w4 wr base l X k) (fun _ i _ => 4 - (intOf i).toNat)
    case atStart => exact ⟨0, by omega, rfl, World.ownsRow_nil _ _ _ _, Kept.refl _ _⟩
    case round =>
      obtain ⟨i, hi, rfl, hL⟩ := hrel
      obtain ⟨lo, lc', rfl⟩ := hL.form
      have HL := Lib.hid hL
      have how := hL.own
      clear hL
      by_cases hlt : i < 4
      · obtain ⟨j, x, hj, hx, hX⟩ := HF.out i hlt
        have d2 : wr.cell? ⟨w.heap.size, 2, none⟩ = some (.bool strong) := cellIn (HL.out.kept.heap id HD4.out) 2 rfl
        have q0 : wr.cell? ⟨w2.heap.size + 1, i, none⟩ = some (.int .i64 j) := cellIn (HL.out.kept.heap id HQ4.out) i hj
        have l0 : wr.cell? ⟨w.heap.size + 1, j, none⟩ = some (.string (str x)) := cellIn (HL.out.kept.heap id HL4.out) j (by simp [hx])
        have hjl : j < L.length := (List.getElem?_eq_some_iff.1 hx).1
        have hix := side_at i hlt wr
        have hsz4 : base ≤ wr.heap.size := by have := HL.out.kept.size; have := HBASE.out; omega
        have HX1 := Lib.hid hX
        have s1 : w2.heap.size + 1 < wr.heap.size := by have := ltIn HQ4.out; have := HL.out.kept.size; omega
        have s2 : w.heap.size + 1 < wr.heap.size := by have := ltIn HL4.out; have := HL.out.kept.size; omega
        have n1 : Hid (some (w2.heap.size + 1) ≠ (Value.slice lo i lc').ownBlock) := Lib.hid fun hx => by
          have := (how.lt _ hx.symm).1; have := ltIn HQ4.out; have := HBASE.out; omega
        have n2 : Hid (some (w.heap.size + 1) ≠ (Value.slice lo i lc').ownBlock) := Lib.hid fun hx => by
          have := (how.lt _ hx.symm).1; have := ltIn HL4.out; have := HBASE.out; omega
        have n3 : Hid (some w.heap.size ≠ (Value.slice lo i lc').ownBlock) := Lib.hid fun hx => by
          have := (how.lt _ hx.symm).1; have := ltIn HL4.out; have := HBASE.out; omega
        obtain ⟨sn, HSN⟩ : ∃ y, Hid (sideName i = y) := ⟨_, rfl⟩
        rw [HSN.out] at hix
        clear hj hx hX
        go_upto_region 11 with fail
        go_region_held3 (fun w' => w'.cell? ⟨w2.heap.size + 1, i, none⟩ = some (.int .i64 j) ∧ w'.cell? ⟨w.heap.size + 1, j, none⟩ = some (.string (str x)) ∧ w'.cell? ⟨w.heap.size, 2, none⟩ = some (.bool strong)) (first | go_keep | (go_split_ands; exact ⟨by rw [hgrow.cell_far _ (by simp; omega) n1.out]; assumption, by rw [hgrow.cell_far _ (by simp; omega) n2.out]; assumption, by rw [hgrow.cell_far _ (by simp; omega) n3.out]; assumption⟩))
          ((refine step_append_lies _ (by rfl) _ _ _ (by rfl) base 98 i0 _ 3 40 Tryz.underlying45 hi0 hz0 hz1 hz2 rfl (by omega) _ i _ (by rfl) (how.alloc _) ⟨wr.heap.size, 0, none⟩ 1 1 (declCells ⟨sn, x, strong⟩) (by rfl) (by rfl) (World.news_of_block (cs := (declCells ⟨sn, x, strong⟩).toArray) (t := 98) (fr := (0, 0)) (heap_alloc_new wr _)) (decl_one _) (by omega) (by unfold maxLen; omega) (by omega) (by simp; omega) (wr.heap.size + 1) (by simp) ?_; intro gg cap w5 hown5 hgrow hat hlt5))
        go_wp2_with fail
        go_roundw
        case measure => simp [intOf]; omega
        case rel =>
          refine ⟨i + 1, by omega, by go_num, ?_, ((HL.out.kept.alloc _).drew).grown hgrow (fun k hk => .inr (by have := (HL.out.own.lt k hk).1; have := HBASE.out; omega))⟩
          rw [List.take_add_one, HX1.out, HSN.out, Option.toList_some, List.map_append, List.flatten_append, List.map_singleton, List.flatten_singleton]
          exact hown5
      · obtain rfl : i = 4 := by omega
        go_wp2_with fail
        go_meet
        case rel => exact HL.out
  case rest =>
    have HE := Lib.hid hcut
    obtain ⟨lo, lc', rfl⟩ := hcut.form
    clear hcut
    go_wp2_with fail
    refine bodyPost_ret (v := .tuple #[.slice lo 4 lc', .int .i64 0]) (by simp [results, Tryz.results43, go_sem]) rfl ?_
    refine ⟨_, rfl, HB4.out.trans (HE.out.kept.below.mono HB4.out.size), ?_⟩
    have hX4 : X.length = 4 := by rw [← HX.out]; rfl
    have how := HE.out.own
    rw [List.take_of_length_le (by omega)] at how
    have hbs := HB4.out.size
    exact ⟨rowsAt_of_owns decl_rows (by simp [hX4]) how, fun k hk => ⟨fun hx => by have := (how.lt k hk).1; have := HBASE.out; omega, (how.lt k hk).2⟩⟩
set_option maxRecDepth 100000 in
set_option maxHeartbeats 1600000 in
theorem expand_many (nm val : B) (L : List B) (strong : Bool) (w : World) (m : Int) (hm : w.cell? ⟨0, 0, none⟩ = some (.int .i64 m)) (hl : val.length ≤ 1048576) (hn : nm = edgeName) (hs : splitB val = L) (hw : exWhich L.length = none) :
  Calls Tryz.prog 43 #[.agg #[.string (str nm), .string (str val), .bool strong]] w fun e w' => e = .returned (.tuple #[.slice none 0 0, .int .i64 5]) ∧ Below w.heap.size w w' := by
  have g : (nm == [101, 100, 103, 101]) = true := by simp [hn, edgeName]
  have HS := Lib.hid hs
  have HW := Lib.hid hw
  have hLl : L.length ≤ 1048577 := by have := splitB_len val; rw [hs] at this; omega
  clear hn hs hw
  go_enter Tryz.func43, Tryz.ntmps43
  go_wp2_with fail
  refine (split_any val m _ (by omega) (by rw [World.cell?_alloc_old _ _ _ (by have := World.block_lt_of_cell? _ _ hm; dsimp at this ⊢; omega)]; exact hm)).mono ?_
  rintro e w2 ⟨rfl, hw2⟩
  rw [HS.out] at hw2 ⊢
  have hb2 := ((Below.refl w.heap.size w).alloc (Nat.le_refl _) (.cells #[.string (str nm), .string (str val), .bool strong] 98 (0, 0))).alloc (by simp) (.cells (L.map fun x => Value.string (str x)).toArray 9 (0, 0))
  rw [← hw2] at hb2
  have HB2 := Lib.hid hb2
  clear hw2 hb2
  go_upto_region 4 with fail
  have e0 := run_made (P := Tryz.prog) w2 158
  have e1 := ex_ins1 w2
  have e2 := ex_ins2 w2
  have e3 := ex_ins3 w2
  have e4 := ex_ins4 w2
  have e5 := ex_look w2 L.length
  rw [HW.out] at e5
  simp only [Option.isSome_none] at e5
  go_wp2_with fail
  refine bodyPost_ret (v := .tuple #[.slice none 0 0, .int .i64 5]) (by simp [results, Tryz.results43, go_sem]) rfl ?_
  exact ⟨rfl, (HB2.out.alloc HB2.out.size _).alloc (Nat.le_trans HB2.out.size (by simp)) _⟩
set_option maxHeartbeats 800000 in
theorem expand_plain_any (nm val : B) (strong : Bool) (w : World) (hn : nm ≠ edgeName) :
  Calls Tryz.prog 43 #[.agg #[.string (str nm), .string (str val), .bool strong]] w fun e w' => ∃ v, e = .returned (.tuple #[v, .int .i64 0]) ∧ Below w.heap.size w w' ∧ DeclsIn w' (fun k => k < w.heap.size) v [⟨nm, val, strong⟩] := by
  have g : (nm == [101, 100, 103, 101]) = false := beq_false_of_ne hn
  clear hn
  go_enter Tryz.func43, Tryz.ntmps43
  go_wp2_with fail
  refine bodyPost_ret (v := .tuple #[.slice (some ⟨w.heap.size + 1, 0, none⟩) 1 1, .int .i64 0]) (by simp [results, Tryz.results43, go_sem]) rfl ?_
  have hh := newIn (w.alloc (.cells #[.string (str nm), .string (str val), .bool strong] 98 (0, 0))) (.cells #[.string (str nm), .string (str val), .bool strong] 98 (0, 0))
  have e1 : (w.alloc (.cells #[.string (str nm), .string (str val), .bool strong] 98 (0, 0))).heap.size = w.heap.size + 1 := by simp
  rw [e1] at hh
  refine ⟨_, rfl, ((Below.refl _ _).alloc (Nat.le_refl _) _).alloc (by simp) _, ⟨_, _, rfl, Nat.le_refl _, by unfold maxLen; omega, fun _ => ⟨_, _, rfl, ?_⟩⟩, ?_⟩
  · intro i r hr j c hc
    cases i with
    | zero =>
      simp at hr; subst hr
      rw [cell_of_row _ _ _ _ _ _ hh]
      simpa [declCells] using hc
    | succ i => simp at hr
  · intro k hk
    cases hk
    exact ⟨fun h => by simp at h; omega, by simp⟩
def ExpandEnds (w : World) (r : Option (List PDecl)) (e : Ending) (w' : World) : Prop :=
  match r with
  | none => e = .returned (.tuple #[.slice none 0 0, .int .i64 5]) ∧ Below w.heap.size w w'
  | some x => ∃ v, e = .returned (.tuple #[v, .int .i64 0]) ∧ Below w.heap.size w w' ∧ DeclsIn w' (fun k => k < w.heap.size) v x
theorem expand_any (d : PDecl) (w : World) (m : Int) (hm : w.cell? ⟨0, 0, none⟩ = some (.int .i64 m)) (hl : d.val.length ≤ 1048576) :
    Calls Tryz.prog 43 #[.agg #[.string (str d.name), .string (str d.val), .bool d.strong]] w (ExpandEnds w (pExpand d)) := by
  obtain ⟨nm, val, st⟩ := d
  simp only at hl ⊢
  by_cases hn : nm = edgeName
  · unfold pExpand
    simp only [hn, if_true]
    cases hs : splitB val with
    | nil => exact absurd hs (splitB_ne val)
    | cons a L =>
      match L with
      | [] => exact expand_edge edgeName val [a] st 0 0 0 0 a a a a w m hm hl rfl hs rfl rfl rfl rfl rfl
      | [b] => exact expand_edge edgeName val [a, b] st 0 1 0 1 a b a b w m hm hl rfl hs rfl rfl rfl rfl rfl
      | [b, c] => exact expand_edge edgeName val [a, b, c] st 0 1 2 1 a b c b w m hm hl rfl hs rfl rfl rfl rfl rfl
      | [b, c, d] => exact expand_edge edgeName val [a, b, c, d] st 0 1 2 3 a b c d w m hm hl rfl hs rfl rfl rfl rfl rfl
      | b :: c :: d :: x :: L => exact expand_many edgeName val _ st w m hm hl rfl hs rfl
  · unfold pExpand
    simp only [hn, if_false]
    exact expand_plain_any nm val st w hn
end Go.Proofs.YtplbdlgmjehckadGreatDoor

namespace Go.Proofs.YtplbdlgmjehckadGreatDoor
open Go.RowKit
set_option linter.unusedVariables false
set_option linter.unusedSimpArgs false
theorem expand_len {d : PDecl} {x : List PDecl} (h : pExpand d = some x) : 1 ≤ x.length ∧ x.length ≤ 4 := by
  unfold pExpand at h
  split at h
  · split at h
    all_goals first
      | (cases h; exact ⟨by simp [edges], by simp [edges]⟩)
      | cases h
  · cases h; simp
theorem all_take {ds : List PDecl} {k : Nat} {d : PDecl} {xs : List PDecl} (hd : ds[k]? = some d) (hx : pAll (ds.take k) = some xs) : pAll (ds.take (k + 1)) = match pExpand d with | none => none | some y => some (xs ++ y) := by
  rw [List.take_add_one, hd, Option.toList_some, all_app, hx]
  simp only [pAll]
  cases pExpand d <;> simp
theorem all_none_take {ds : List PDecl} {k : Nat} (h : pAll (ds.take k) = none) : pAll ds = none := by
  have := all_app (xs := ds.take k) (ys := ds.drop k)
  rw [List.take_append_drop, h] at this
  exact this
def AllEnds (w : World) (r : Option (List PDecl)) (e : Ending) (w' : World) : Prop :=
  match r with
  | none => e = .returned (.tuple #[.slice none 0 0, .int .i64 5]) ∧ Below w.heap.size w w'
  | some x => ∃ v, e = .returned (.tuple #[v, .int .i64 0]) ∧ Below w.heap.size w w' ∧ DeclsIn w' (fun k => k < w.heap.size) v x
structure ALoop (w wr : World) (base : Nat) (l : Value) (ds : List PDecl) (k n : Nat) (xs : List PDecl) : Prop where
  own : wr.ownsRow base 98 3 l n (xs.map declCells).flatten
  kept : Kept (fun _ => False) w wr
  all : pAll (ds.take k) = some xs
  len : n = xs.length ∧ n ≤ 4 * k
theorem ALoop.form {w wr : World} {base : Nat} {l : Value} {ds xs : List PDecl} {k n : Nat} (h : ALoop w wr base l ds k n xs) : ∃ vo vc, l = .slice vo n vc := by
  rcases h.own.2 with ⟨h, hn⟩ | ⟨g, cap, cur, h, _⟩
  · exact ⟨none, 0, by rw [h, hn]⟩
  · exact ⟨_, cap, h⟩
theorem decl_ones (xs : List PDecl) : ∀ u ∈ (xs.map declCells).flatten, u.oneCell' = true := by
  intro u hu
  simp only [List.mem_flatten, List.mem_map] at hu
  obtain ⟨r, ⟨d, _, rfl⟩, hu⟩ := hu
  exact decl_one d u hu
set_option maxRecDepth 100000 in
set_option maxHeartbeats 1600000 in
theorem all_any (w : World) (v : Value) (ds : List PDecl) (h : DeclsAt w v ds) (hN : ds.length ≤ 5000000) (hone : ∀ d ∈ ds, d.val.length ≤ 1048576) (m : Int) (hm : w.cell? ⟨0, 0, none⟩ = some (.int .i64 m)) :
    Calls Tryz.prog 22 #[v] w (AllEnds w (pAll ds)) := by
  obtain ⟨av, cv, rfl, hcv1, hcv2⟩ := h.form
  unfold maxLen at hcv2
  obtain ⟨base, HBASE⟩ : ∃ base, Hid (w.heap.size = base) := ⟨_, rfl⟩
  obtain ⟨R, HR⟩ : ∃ R, Hid (pAll ds = R) := ⟨_, rfl⟩
  rw [HR.out]
  obtain ⟨i0, hi0, hz0, hz1, hz2⟩ := info_parts info_decl
  have H := Lib.hid h
  have HONE := Lib.hid hone
  have HM := Lib.hid hm
  clear h hone hm
  go_enter Tryz.func22, Tryz.ntmps22
  go_wp2_with fail
  go_loopw [4, 11] (fun l i wr => ∃ (k n : Nat) (xs : List PDecl), k ≤ ds.length ∧ i = .int .i64 k ∧ ALoop w wr base l ds k n xs) (fun _ i _ => ds.length - (intOf i).toNat)
  case atStart => exact ⟨0, 0, [], by omega, rfl, World.ownsRow_nil _ _ _ _, Kept.refl _ _, rfl, rfl, by omega⟩
  case round =>
    obtain ⟨i, n, xs, hi, rfl, hL⟩ := hrel
    obtain ⟨lo, lc, rfl⟩ := hL.form
    have HL := Lib.hid hL
    obtain ⟨hn1, hn2⟩ := hL.len
    clear hL hn1
    by_cases hlt : i < ds.length
    · have hx := List.getElem?_eq_getElem hlt
      generalize hgx : ds[i] = x at hx
      clear hgx
      obtain ⟨b, off, rfl, g0, g1, g2⟩ := DeclsAt.at (decls_firm.kept H.out HL.out.kept) hx
      have hxl := HONE.out x (List.mem_of_getElem? hx)
      have HX := Lib.hid hx
      clear hx
      go_wp2_with fail
      obtain ⟨wa, HWA⟩ : ∃ x', Hid (wr.alloc (.cells #[.string (str x.name), .string (str x.val), .bool x.strong] 98 (0,0)) = x') := ⟨_, rfl⟩
      have ka : Kept (fun _ => False) w wa := by rw [← HWA.out]; exact HL.out.kept.alloc _
      have how : wa.ownsRow base 98 3 (.slice lo n lc) n (xs.map declCells).flatten := by rw [← HWA.out]; exact HL.out.own.alloc _
      have hm1 : wa.cell? ⟨0, 0, none⟩ = some (.int .i64 m) := ka.cell id HM.out
      have hsz : base ≤ wa.heap.size := by have := ka.size; have := HBASE.out; omega
      have KA := Lib.hid ka
      have HOW := Lib.hid how
      clear ka how g0 g1 g2
      rw [HWA.out]
      refine (expand_any x wa m hm1 hxl).mono ?_
      intro e w2 hE
      cases hp : pExpand x with
      | none =>
        rw [hp] at hE
        obtain ⟨rfl, hb2⟩ := hE
        have hR : Hid (R = none) := Lib.hid (by
          have := all_take HX.out HL.out.all
          rw [hp] at this
          rw [← HR.out]; exact all_none_take this)
        have K2 := Lib.hid (KA.out.trans (Kept.of_below hb2))
        clear hp hb2
        go_wp2_with fail
        refine bodyPost_ret (v := .tuple #[.slice none 0 0, .int .i64 5]) (by simp [results, Tryz.results22, go_sem]) rfl ?_
        rw [hR.out]
        exact ⟨rfl, K2.out.below⟩
      | some y =>
        rw [hp] at hE
        obtain ⟨v2, rfl, hb2, hD2⟩ := hE
        have hT : Hid (pAll (ds.take (i + 1)) = some (xs ++ y)) := Lib.hid (by
          have := all_take HX.out HL.out.all
          rw [hp] at this
          exact this)
        obtain ⟨hy1, hy2⟩ := expand_len hp
        obtain ⟨ya, yc, rfl, hyc1, hyc2⟩ := hD2.form
        obtain ⟨yb, yo, rfl⟩ := hD2.1.addr (by intro h0; have := congrArg List.length h0; simp at this; simp [this] at hy1)
        have hnews := Lib.hid (hD2.1.news decl_rows)
        have K2 := Lib.hid (KA.out.trans (Kept.of_below hb2))
        have how2 := owns_kept HOW.out (Kept.of_below (S := fun _ => False) hb2) (fun _ _ => id)
        have hsz2 : base ≤ w2.heap.size := by have := hb2.size; omega
        unfold maxLen at hyc2
        clear hp hb2
        go_wp2_with (at_builtin; refine wpList_append_lies _ rfl _ _ _ rfl base 98 i0 _ 3 40 Tryz.underlying45 hi0 hz0 hz1 hz2 rfl (by omega) _ n _ (by rfl) how2 ⟨yb, yo, none⟩ y.length yc ((y.map declCells).flatten) (by rfl) (by rw [flatten_len 3 _ decl_rows, List.length_map]) hnews.out (decl_ones y) (by omega) (by unfold maxLen; omega) (by omega) (by omega) w2.heap.size rfl ?_; intro gg cap w4 hown4 hgrow4 hat4 hlt4)
        go_roundw
        case measure => simp [intOf]; omega
        case rel =>
          refine ⟨i + 1, n + y.length, xs ++ y, by omega, by go_num, ?_, K2.out.grown hgrow4 (fun k hk => .inr (by have := (how2.lt k hk).1; have := HBASE.out; omega)), hT.out, ?_⟩
          · rw [List.map_append, List.flatten_append]; exact hown4
          · have := HL.out.len
            exact ⟨by rw [List.length_append]; omega, by omega⟩
    · obtain rfl : i = ds.length := by omega
      go_wp2_with fail
      refine bodyPost_ret (v := .tuple #[.slice lo n lc, .int .i64 0]) (by simp [results, Tryz.results22, go_sem]) rfl ?_
      have hall := HL.out.all
      rw [List.take_length] at hall
      rw [← HR.out, hall]
      refine ⟨_, rfl, HL.out.kept.below, rowsAt_of_owns decl_rows (by rw [List.length_map]; exact HL.out.len.1) HL.out.own, fun k hk => ⟨fun hx => by have := (HL.out.own.lt k hk).1; have := HBASE.out; omega, (HL.out.own.lt k hk).2⟩⟩
end Go.Proofs.YtplbdlgmjehckadGreatDoor

