/-
  The reader of sheets: Decls.
-/
import Derived.Test.YtplbdlgmjehckabShGuard
import Derived.Test.YtplbdlgmjehckabShDecls
import Derived.Test.YtplbdlgmjehckabShFine
import Derived.Deep.Onto
namespace Go.Proofs.Ytplbdlgmjehckab
open Go.RowKit
set_option linter.unusedVariables false
set_option linter.unusedSimpArgs false


set_option maxHeartbeats 400000 in
theorem sclear_Decls (fb lb : Nat) (err pos : Int) (u : FrameMode) (w : World) (v : Value) (hf : w.heap[fb]? = some (.cells #[.int .i64 err, .int .i64 pos] 26 (0,0))) (hl : w.heap[lb]? = some (.cells #[v] 22 (0,0))) (he : (err != 0) = true) :
    CallsD Try.prog 26 #[.pointer (some ⟨fb, 0, none⟩), .pointer (some ⟨lb, 0, none⟩)] u w fun e u' w' => u' = u ∧ (e = .returned (.tuple #[]) ∧ Kept (· = lb) w w' ∧ w'.heap[lb]? = some (.cells #[.slice none 0 0] 22 (0,0))) := by
  refine callsD_of_wp Try.func26 rfl ?_
  have g0 := cellIn hf 0 rfl
  have l0 := cellIn hl 0 rfl
  have lf := freeIn hl 0
  simp [Try.ntmps26]
  simp only [Array.replicate_succ, Array.replicate_zero, List.push_toArray, List.append_toArray, List.nil_append, List.cons_append]
  go_wp2
  go_end0
  exact ⟨rfl, (Kept.refl (· = lb) w).setCell (p := ⟨lb, 0, none⟩) (.inl rfl) _, setIn hl 0 _⟩

set_option maxHeartbeats 400000 in
theorem sclear_Decls_idle (fb lb : Nat) (pos : Int) (u : FrameMode) (w : World) (hf : w.heap[fb]? = some (.cells #[.int .i64 0, .int .i64 pos] 26 (0,0))) :
    CallsD Try.prog 26 #[.pointer (some ⟨fb, 0, none⟩), .pointer (some ⟨lb, 0, none⟩)] u w fun e u' w' => u' = u ∧ (e = .returned (.tuple #[]) ∧ w' = w) := by
  refine callsD_of_wp Try.func26 rfl ?_
  have g0 := cellIn hf 0 rfl
  simp [Try.ntmps26]
  simp only [Array.replicate_succ, Array.replicate_zero, List.push_toArray, List.append_toArray, List.nil_append, List.cons_append]
  go_wp2
  go_end0
  exact ⟨rfl, rfl⟩


def SDeclsEnds (w : World) (r : Ans (List PDecl)) (e : Ending) (w' : World) : Prop :=
  match r with
  | .bad f => e = .returned (.tuple #[.slice none 0 0, .agg #[.int .i64 (f.err : Int), .int .i64 (f.pos : Int)]]) ∧ Below w.heap.size w w'
  | .ok rs => ∃ v, e = .returned (.tuple #[v, .agg #[.int .i64 0, .int .i64 0]]) ∧ Below w.heap.size w w' ∧ DeclsIn w' (fun k => k < w.heap.size) v rs

def dStart (w : World) (s : B) : World :=
  ((w.alloc (.cells #[.slice none 0 0] 22 (0,0))).alloc (.cells #[.int .i64 0, .int .i64 0] 26 (0,0))).alloc (.cells #[.string (str s), .int .i64 0] 49 (0,0))
theorem dstart_size (w : World) (s : B) : (dStart w s).heap.size = w.heap.size + 3 := by simp [dStart]
theorem dstart_kept (w : World) (s : B) : Kept (fun _ => False) w (dStart w s) := (((Kept.refl (fun _ => False) w).alloc _).alloc _).alloc _
theorem dstart_l (w : World) (s : B) : (dStart w s).heap[w.heap.size]? = some (.cells #[.slice none 0 0] 22 (0,0)) := oldIn (oldIn (newIn w _) _) _
theorem dstart_f (w : World) (s : B) : (dStart w s).heap[w.heap.size + 1]? = some (.cells #[.int .i64 0, .int .i64 0] 26 (0,0)) := by
  have := newIn (w.alloc (.cells #[.slice none 0 0] 22 (0,0))) (.cells #[.int .i64 0, .int .i64 0] 26 (0,0))
  simp only [show (w.alloc (.cells #[.slice none 0 0] 22 (0,0))).heap.size = w.heap.size + 1 from by simp] at this
  exact oldIn this _
theorem dstart_rd (w : World) (s : B) (hs : s.length ≤ 4000) : SdAt (dStart w s) (w.heap.size + 2) s 0 := by
  refine ⟨?_, Nat.zero_le _, hs⟩
  have := newIn ((w.alloc (.cells #[.slice none 0 0] 22 (0,0))).alloc (.cells #[.int .i64 0, .int .i64 0] 26 (0,0))) (.cells #[.string (str s), .int .i64 0] 49 (0,0))
  simp only [show ((w.alloc (.cells #[.slice none 0 0] 22 (0,0))).alloc (.cells #[.int .i64 0, .int .i64 0] 26 (0,0))).heap.size = w.heap.size + 2 from by simp] at this
  exact this

set_option maxRecDepth 100000 in
set_option maxHeartbeats 3200000 in
theorem sdeclsOf_any (s : B) (w : World) (m : Int) (hm : w.cell? ⟨0, 0, none⟩ = some (.int .i64 m)) (hs : s.length ≤ 9223372036854775807) :
    Calls Try.prog 12 #[.string (str s)] w (SDeclsEnds w (sDeclsOf s)) := by
  obtain ⟨r, HR⟩ : ∃ r, Hid (sDeclsOf s = r) := ⟨_, rfl⟩
  rw [HR.out]
  have h0 : 0 < w.heap.size := World.block_lt_of_cell? w _ hm
  have HM := Lib.hid hm
  clear hm
  have hmf : ∀ (fn : Fn) (first cap : Array Value) (w : World), (Instr.makeFunc fn first cap).run Try.prog w = .ok (.func fn first cap) w := fun _ _ _ _ => rfl
  by_cases hl : 4000 < s.length
  · obtain rfl : r = .bad ⟨4, 0⟩ := by rw [← HR.out]; unfold sDeclsOf; rw [if_pos hl]
    have hlI : 4000 < (s.length : Int) := by omega
    have hsz : ((str s).size : Int) = s.length := by rw [str_size]
    go_enter_defers Try.func12, Try.ntmps12
    go_wp2
    clear hmf HR HM
    simp [bodyPostD, Leaves, settle, results, Try.results12, go_sem]
    exact ⟨rfl, (((Kept.refl (fun _ => False) w).alloc _).alloc _).below⟩
  · have hE : (sDecls s 0).then (fun x => if x.2.1 = [] then Ans.ok x.1 else .bad ⟨2, x.2.2⟩) = r := by
      rw [← HR.out]; unfold sDeclsOf; rw [if_neg hl]
    have HE := Lib.hid hE
    clear hE
    have hsz : ((str s).size : Int) = s.length := by rw [str_size]
    go_enter_defers Try.func12, Try.ntmps12
    go_wp2_with fail
    refine (sdecls_sum (dStart w s) (w.heap.size + 2) s 0 m ?_ ?_ (by omega)).mono ?_
    · exact dstart_rd w s (by omega)
    · exact (dstart_kept w s).cell (fun h => h) HM.out
    · rw [List.drop_zero]
      have hk0 := dstart_kept w s
      have hl0 := dstart_l w s
      have hf0 := dstart_f w s
      change ∀ (e : Ending) (w' : World), SSum _ (dStart w s) _ _ _ e w' → _
      have HK0 := Lib.hid hk0
      have HL0 := Lib.hid hl0
      have HF0 := Lib.hid hf0
      have hsz0 := dstart_size w s
      clear hk0 hl0 hf0
      generalize dStart w s = w0 at *
      rintro e w' (⟨f, rfl, hk, hp⟩ | ⟨rs', at', ⟨v', rfl, hdone⟩, hk, hrd, hp⟩)
      · have HBAD := Lib.hid (sdeclsOf_bad (s := s) (f := f) (by rw [HR.out, ← HE.out, hp.out]; rfl))
        obtain rfl : r = .bad f := by rw [← HE.out, hp.out]; rfl
        have hl1 := hk.heap (fun (hs : _ = _) => by omega) HL0.out
        have hf1 := hk.heap (fun (hs : _ = _) => by omega) HF0.out
        clear hmf HR HE HM hp
        simp only [bodyPostD]
        refine leaves_cons (f := 19) (args := #[.pointer (some ⟨w.heap.size + 1, 0, none⟩)]) (by simp) (by simp [go_sem]) ?_
        refine (sguard_panicking (w.heap.size + 1) f w' _ _ hf1).mono ?_
        rintro e u' w2 ⟨rfl, rfl, hk2, hf2⟩
        have hl2 := hk2.heap (by omega) hl1
        have hne : ((f.err : Int) != 0) = true := by have := HBAD.out.1; simp; omega
        refine leaves_cons (f := 26) (args := #[.pointer (some ⟨w.heap.size + 1, 0, none⟩), .pointer (some ⟨w.heap.size, 0, none⟩)]) (by simp [settle]) (by simp [go_sem]) ?_
        refine (sclear_Decls (w.heap.size + 1) w.heap.size f.err f.pos _ w2 _ hf2 hl2 hne).mono ?_
        rintro e u' w3 ⟨rfl, rfl, hk3, hl3⟩
        have hf3 := hk3.heap (by omega) hf2
        have l0 := cellIn hl3 0 rfl
        have g0 := cellIn hf3 0 rfl
        have g1 := cellIn hf3 1 rfl
        simp [Leaves, settle, results, Try.results12, go_sem, l0, g0, g1]
        exact ⟨rfl, (((HK0.out.trans' hk (fun i hi (hs : i = _) => by omega)).trans' hk2 (fun i hi (hs : i = _) => by omega)).trans' hk3 (fun i hi (hs : i = _) => by omega)).below⟩
      · have hr : (if s.drop at' = [] then Ans.ok rs' else .bad ⟨2, at'⟩) = r := by rw [← HE.out, hp.out]; rfl
        obtain ⟨a9, c9, rfl⟩ : ∃ a cap, v' = .slice a rs'.length cap := by
          obtain ⟨a, cap, e, _⟩ := hdone.1
          exact ⟨a, cap, by rw [e, List.length_map]⟩
        have hat : at' ≤ s.length := hrd.2.1
        have c0 := hrd.c0
        have c1 := hrd.c1
        have hl1 := hk.heap (fun (hs : _ = _) => by omega) HL0.out
        have hf1 := hk.heap (fun (hs : _ = _) => by omega) HF0.out
        have l0 : w'.cell? ⟨w.heap.size, 0, none⟩ = some (.slice none 0 0) := cellIn hl1 0 rfl
        have l0f := freeIn hl1 0
        have g0 : w'.cell? ⟨w.heap.size + 1, 0, none⟩ = some (.int .i64 0) := cellIn hf1 0 rfl
        have g1 : w'.cell? ⟨w.heap.size + 1, 1, none⟩ = some (.int .i64 0) := cellIn hf1 1 rfl
        have g0f := freeIn hf1 0
        have g1f := freeIn hf1 1
        have HF := Lib.hid hf1
        have HL := Lib.hid hl1
        have HRD := Lib.hid hrd
        have HDN := Lib.hid hdone
        have HR0 := Lib.hid hr
        clear hl1 hf1 hrd hdone hr hp
        by_cases hend : at' = s.length
        · obtain rfl : r = .ok rs' := by rw [← HR0.out, if_pos (by rw [hend]; simp)]
          have hd : decide ((at' : Int) < (s.length : Int)) = false := by simp; omega
          subst hend
          clear HR0
          go_wp2_with fail
          go_region
          go_wp2_with fail
          clear hmf HR HM
          simp only [bodyPostD]
          refine leaves_cons (f := 19) (args := #[.pointer (some ⟨w.heap.size + 1, 0, none⟩)]) (by simp) (by simp [go_sem]) ?_
          refine (sguard_idle _ _).mono ?_
          rintro e u' w2 ⟨rfl, rfl, hw2⟩
          have hkF : Kept (fun k => k = w.heap.size ∨ k = w.heap.size + 1) w' w2 := by
            rw [hw2]
            exact (((((Kept.refl _ w').setCell (p := ⟨w.heap.size, 0, none⟩) (.inl (.inl rfl)) _).setCell (p := ⟨w.heap.size, 0, none⟩) (.inl (.inl rfl)) _).setCell (p := ⟨w.heap.size + 1, 0, none⟩) (.inl (.inr rfl)) _).setCell (p := ⟨w.heap.size + 1, 1, none⟩) (.inl (.inr rfl)) _).drew
          have l1 : w2.cell? ⟨w.heap.size, 0, none⟩ = some (.slice a9 rs'.length c9) := by
            rw [hw2]
            exact cellIn (otherIn (otherIn (setIn (setIn HL.out 0 (.slice a9 rs'.length c9)) 0 (.slice a9 rs'.length c9)) ⟨w.heap.size + 1, 0, none⟩ _ (by show w.heap.size ≠ w.heap.size + 1; omega)) ⟨w.heap.size + 1, 1, none⟩ _ (by show w.heap.size ≠ w.heap.size + 1; omega)) 0 rfl
          have hf2 : w2.heap[w.heap.size + 1]? = some (.cells #[.int .i64 0, .int .i64 0] 26 (0, 0)) := by
            rw [hw2]
            exact setIn (setIn (otherIn (otherIn HF.out ⟨w.heap.size, 0, none⟩ (.slice a9 rs'.length c9) (by show w.heap.size + 1 ≠ w.heap.size; omega)) ⟨w.heap.size, 0, none⟩ (.slice a9 rs'.length c9) (by show w.heap.size + 1 ≠ w.heap.size; omega)) 0 (.int .i64 0)) 1 (.int .i64 0)
          clear hw2 l0 g0 g1
          refine leaves_cons (f := 26) (args := #[.pointer (some ⟨w.heap.size + 1, 0, none⟩), .pointer (some ⟨w.heap.size, 0, none⟩)]) (by simp [settle]) (by simp [go_sem]) ?_
          refine (sclear_Decls_idle (w.heap.size + 1) w.heap.size 0 _ w2 hf2).mono ?_
          rintro e u' w3 ⟨rfl, rfl, rfl⟩
          have g2 : w3.cell? ⟨w.heap.size + 1, 0, none⟩ = some (.int .i64 0) := cellIn hf2 0 rfl
          have g3 : w3.cell? ⟨w.heap.size + 1, 1, none⟩ = some (.int .i64 0) := cellIn hf2 1 rfl
          simp [Leaves, settle, results, Try.results12, go_sem, l1, g2, g3]
          refine ⟨_, rfl, ((HK0.out.trans' hk (fun i hi (hs : i = _) => by omega)).trans' hkF (fun i hi hs => by rcases hs with hs | hs <;> omega)).below, ?_⟩
          exact decls_lasts _ _ _ _ _ _ _ HDN.out hkF (fun k _ hs => by rcases hs with hs | hs <;> (show k < w0.heap.size; omega)) (fun k _ (hx : k < w.heap.size) => by show k < w0.heap.size; omega)
        · obtain rfl : r = .bad ⟨2, at'⟩ := by
            rw [← HR0.out, if_neg]
            intro he
            have := congrArg List.length he
            simp at this
            omega
          have hd : (at' : Int) < (s.length : Int) := by omega
          clear HR0
          go_wp2_with fail
          have hrd2 : SdAt (w'.setCell ⟨w.heap.size, 0, none⟩ (.slice a9 rs'.length c9)) (w.heap.size + 2) s at' := ⟨otherIn HRD.out.1 ⟨w.heap.size, 0, none⟩ _ (by show w.heap.size + 2 ≠ w.heap.size; omega), HRD.out.2⟩
          refine (sfail_any 2 _ _ s at' hrd2).mono ?_
          rintro e w1 ⟨rfl, hq⟩
          have hl3 := (hq.kept (fun _ => False)).heap id (setIn HL.out 0 (.slice a9 rs'.length c9))
          have hf3 := (hq.kept (fun _ => False)).heap id (otherIn HF.out ⟨w.heap.size, 0, none⟩ (.slice a9 rs'.length c9) (by show w.heap.size + 1 ≠ w.heap.size; omega))
          have hk3 : Kept (fun k => k = w.heap.size ∨ k = w.heap.size + 2) w0 w1 := ((hk.mono (fun k _ hs => .inr hs)).setCell (p := ⟨w.heap.size, 0, none⟩) (.inl (.inl rfl)) _).trans (hq.kept _)
          have hne : (((2 : Nat) : Int) != 0) = true := by decide
          clear hmf HR HM hq
          simp only [bodyPostD]
          refine leaves_cons (f := 19) (args := #[.pointer (some ⟨w.heap.size + 1, 0, none⟩)]) (by simp) (by simp [go_sem]) ?_
          refine (sguard_panicking (w.heap.size + 1) ⟨2, at'⟩ w1 _ _ hf3).mono ?_
          rintro e u' w2 ⟨rfl, rfl, hk4, hf2⟩
          have hl2 := hk4.heap (by omega) hl3
          refine leaves_cons (f := 26) (args := #[.pointer (some ⟨w.heap.size + 1, 0, none⟩), .pointer (some ⟨w.heap.size, 0, none⟩)]) (by simp [settle]) (by simp [go_sem]) ?_
          refine (sclear_Decls (w.heap.size + 1) w.heap.size _ _ _ w2 _ hf2 hl2 hne).mono ?_
          rintro e u' w3 ⟨rfl, rfl, hk5, hl4⟩
          have hf4 := hk5.heap (by omega) hf2
          have l0 := cellIn hl4 0 rfl
          have g0 := cellIn hf4 0 rfl
          have g1 := cellIn hf4 1 rfl
          simp [Leaves, settle, results, Try.results12, go_sem, l0, g0, g1]
          exact ⟨rfl, (((HK0.out.trans' hk3 (fun i hi hs => by rcases hs with hs | hs <;> omega)).trans' hk4 (fun i hi (hs : i = _) => by omega)).trans' hk5 (fun i hi (hs : i = _) => by omega)).below⟩

end Go.Proofs.Ytplbdlgmjehckab
