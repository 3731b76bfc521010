/-
  Lemmas for the claims of this seat: the program's functions walked, and plain laws. In this order: ShParse ShParse1 RowsNews App OwnPut ShPut NdMem Reads FoRules Maps MapFn.
-/
import Derived.Test.YtplbdlgmjehckadGreatDoorPk12
import Derived.Test.YtplbdlgmjehckadGreatDoorPk3
import Derived.Deep.Onto
import Derived.Test.YtplbdlgmjehckadGreatDoorPk9
import Derived.Deep.AppendLies
import Derived.Deep.Upon
import Derived.Test.YtplbdlgmjehckadGreatDoorPk1
import Derived.Test.YtplbdlgmjehckadGreatDoorPk4
import Derived.MapKept
import Derived.WideMake
import Derived.Maps.Own
namespace Go.Proofs.YtplbdlgmjehckadGreatDoor
open Go.RowKit
set_option linter.unusedVariables false
set_option linter.unusedSimpArgs false
set_option maxHeartbeats 400000 in
theorem sclear_Parse (fb lb : Nat) (err pos : Int) (u : FrameMode) (w : World) (v : Value) (hf : w.heap[fb]? = some (.cells #[.int .i64 err, .int .i64 pos] 26 (0,0))) (hl : w.heap[lb]? = some (.cells #[v] 30 (0,0))) (he : (err != 0) = true) :
    CallsD Tryz.prog 39 #[.pointer (some ⟨fb, 0, none⟩), .pointer (some ⟨lb, 0, none⟩)] u w fun e u' w' => u' = u ∧ (e = .returned (.tuple #[]) ∧ Kept (· = lb) w w' ∧ w'.heap[lb]? = some (.cells #[.slice none 0 0] 30 (0,0))) := by
  refine callsD_of_wp Tryz.func39 rfl ?_
  have g0 := cellIn hf 0 rfl
  have l0 := cellIn hl 0 rfl
  have lf := freeIn hl 0
  simp [Tryz.ntmps39]
  simp only [Array.replicate_succ, Array.replicate_zero, List.push_toArray, List.append_toArray, List.nil_append, List.cons_append]
  go_wp2
  go_end0
  exact ⟨rfl, (Kept.refl (· = lb) w).setCell (p := ⟨lb, 0, none⟩) (.inl rfl) _, setIn hl 0 _⟩
set_option maxHeartbeats 400000 in
theorem sclear_Parse_idle (fb lb : Nat) (pos : Int) (u : FrameMode) (w : World) (hf : w.heap[fb]? = some (.cells #[.int .i64 0, .int .i64 pos] 26 (0,0))) :
    CallsD Tryz.prog 39 #[.pointer (some ⟨fb, 0, none⟩), .pointer (some ⟨lb, 0, none⟩)] u w fun e u' w' => u' = u ∧ (e = .returned (.tuple #[]) ∧ w' = w) := by
  refine callsD_of_wp Tryz.func39 rfl ?_
  have g0 := cellIn hf 0 rfl
  simp [Tryz.ntmps39]
  simp only [Array.replicate_succ, Array.replicate_zero, List.push_toArray, List.append_toArray, List.nil_append, List.cons_append]
  go_wp2
  go_end0
  exact ⟨rfl, rfl⟩
end Go.Proofs.YtplbdlgmjehckadGreatDoor

namespace Go.Proofs.YtplbdlgmjehckadGreatDoor
open Go.RowKit
set_option linter.unusedVariables false
set_option linter.unusedSimpArgs false
def SParseEnds (w : World) (r : Ans (List PRule)) (e : Ending) (w' : World) : Prop :=
  match r with
  | .bad f => e = .returned (.tuple #[.slice none 0 0, .agg #[.int .i64 (f.err : Int), .int .i64 (f.pos : Int)]]) ∧ Below w.heap.size w w'
  | .ok rs => ∃ v vs, e = .returned (.tuple #[v, .agg #[.int .i64 0, .int .i64 0]]) ∧ Below w.heap.size w w' ∧ RulesOwn w' w.heap.size v rs vs
def sStart (w : World) (s : B) : World :=
  ((w.alloc (.cells #[.slice none 0 0] 30 (0,0))).alloc (.cells #[.int .i64 0, .int .i64 0] 26 (0,0))).alloc (.cells #[.string (str s), .int .i64 0] 115 (0,0))
theorem sstart_size (w : World) (s : B) : (sStart w s).heap.size = w.heap.size + 3 := by simp [sStart]
theorem sstart_kept (w : World) (s : B) : Kept (fun _ => False) w (sStart w s) := (((Kept.refl (fun _ => False) w).alloc _).alloc _).alloc _
theorem sstart_l (w : World) (s : B) : (sStart w s).heap[w.heap.size]? = some (.cells #[.slice none 0 0] 30 (0,0)) := oldIn (oldIn (newIn w _) _) _
theorem sstart_f (w : World) (s : B) : (sStart w s).heap[w.heap.size + 1]? = some (.cells #[.int .i64 0, .int .i64 0] 26 (0,0)) := by
  have := newIn (w.alloc (.cells #[.slice none 0 0] 30 (0,0))) (.cells #[.int .i64 0, .int .i64 0] 26 (0,0))
  simp only [show (w.alloc (.cells #[.slice none 0 0] 30 (0,0))).heap.size = w.heap.size + 1 from by simp] at this
  exact oldIn this _
theorem sstart_rd (w : World) (s : B) (hs : s.length ≤ 4000) : SdAt (sStart w s) (w.heap.size + 2) s 0 := by
  refine ⟨?_, Nat.zero_le _, hs⟩
  have := newIn ((w.alloc (.cells #[.slice none 0 0] 30 (0,0))).alloc (.cells #[.int .i64 0, .int .i64 0] 26 (0,0))) (.cells #[.string (str s), .int .i64 0] 115 (0,0))
  simp only [show ((w.alloc (.cells #[.slice none 0 0] 30 (0,0))).alloc (.cells #[.int .i64 0, .int .i64 0] 26 (0,0))).heap.size = w.heap.size + 2 from by simp] at this
  exact this
theorem srules_any (s : B) (b base : Nat) (m : Int) (hb0 : 0 < b) (hbb : b < base) (g : Nat) (rs0 : List PRule) (vs0 : List Value) (lv : Value) (at_ : Nat) (w : World) (h : SdAt w b s at_) (hm : w.cell? ⟨0, 0, none⟩ = some (.int .i64 m)) (hbs : base ≤ w.heap.size) (how : RulesOwn w base lv rs0 vs0) (hfew : rs0.length ≤ 60) (hg : (s.drop at_).length < g) :
    Calls Tryz.prog 41 #[.pointer (some ⟨b, 0, none⟩), lv, .string ⟨#[]⟩] w (RulesEnd w base b s lv (rulesFrom g [] rs0 (s.drop at_) at_)) :=
  srules_gen [] s b base m hb0 hbb (fun _ nm g rs vs lv at_ w hn h hm hbs how hfew hg => srules_gen nm s b base m hb0 hbb (fun hh => absurd hh hn) g rs vs lv at_ w h hm hbs how hfew hg) g rs0 vs0 lv at_ w h hm hbs how hfew hg
set_option maxRecDepth 100000 in
set_option maxHeartbeats 3200000 in
theorem sparse_any (s : B) (w : World) (m : Int) (hm : w.cell? ⟨0, 0, none⟩ = some (.int .i64 m)) (hs : s.length ≤ 9223372036854775807) :
    Calls Tryz.prog 21 #[.string (str s)] w (SParseEnds w (sParse s)) := by
  obtain ⟨r, HR⟩ : ∃ r, Hid (sParse s = r) := ⟨_, rfl⟩
  rw [HR.out]
  have h0 : 0 < w.heap.size := World.block_lt_of_cell? w _ hm
  have HM := Lib.hid hm
  clear hm
  have hmf : ∀ (fn : Fn) (first cap : Array Value) (w : World), (Instr.makeFunc fn first cap).run Tryz.prog w = .ok (.func fn first cap) w := fun _ _ _ _ => rfl
  by_cases hl : 4000 < s.length
  · obtain rfl : r = .bad ⟨4, 0⟩ := by rw [← HR.out]; unfold sParse; rw [if_pos hl]
    have hlI : 4000 < (s.length : Int) := by omega
    have hsz : ((str s).size : Int) = s.length := by rw [str_size]
    go_enter_defers Tryz.func21, Tryz.ntmps21
    go_wp2
    clear hmf HR HM
    simp [bodyPostD, Leaves, settle, results, Tryz.results21, go_sem]
    exact ⟨rfl, (((Kept.refl (fun _ => False) w).alloc _).alloc _).below⟩
  · have hE : (rulesFrom (s.length + 1) [] [] s 0).then (fun x => if x.2.1 = [] then Ans.ok x.1 else .bad ⟨2, x.2.2⟩) = r := by
      rw [← HR.out]; unfold sParse; rw [if_neg hl]; unfold rulesFrom
      cases sGap s 0 <;> rfl
    have HE := Lib.hid hE
    clear hE
    have hsz : ((str s).size : Int) = s.length := by rw [str_size]
    go_enter_defers Tryz.func21, Tryz.ntmps21
    go_wp2_with fail
    refine (srules_any s (w.heap.size + 2) (w.heap.size + 3) m (by omega) (by omega) (s.length + 1) [] [] (.slice none 0 0) 0 _ ?_ ?_ ?_ (NestOwn.nil _ _) (by simp) (by simp)).mono ?_
    · exact sstart_rd w s (by omega)
    · exact (sstart_kept w s).cell (fun h => h) HM.out
    · exact Nat.le_of_eq (sstart_size w s).symm
    · rw [List.drop_zero]
      have hk0 := sstart_kept w s
      have hl0 := sstart_l w s
      have hf0 := sstart_f w s
      change ∀ (e : Ending) (w' : World), RulesEnd (sStart w s) _ _ _ _ _ e w' → _
      have HK0 := Lib.hid hk0
      have HL0 := Lib.hid hl0
      have HF0 := Lib.hid hf0
      have hsz0 := sstart_size w s
      clear hk0 hl0 hf0
      generalize sStart w s = w0 at *
      rintro e w' (⟨f, rfl, hk, hp⟩ | ⟨v', rs', vs', at', rfl, ho, hwh, hk, hrd, hfew, hp⟩)
      · have HBAD := Lib.hid (sparse_bad (s := s) (f := f) (by rw [HR.out, ← HE.out, hp.out]; rfl))
        obtain rfl : r = .bad f := by rw [← HE.out, hp.out]; rfl
        have hl1 := hk.heap (fun hs => by rcases hs with hs | hs; exact absurd hs (by omega); cases hs) HL0.out
        have hf1 := hk.heap (fun hs => by rcases hs with hs | hs; exact absurd hs (by omega); cases hs) HF0.out
        clear hmf HR HE HM hp
        simp only [bodyPostD]
        refine leaves_cons (f := 40) (args := #[.pointer (some ⟨w.heap.size + 1, 0, none⟩)]) (by simp) (by simp [go_sem]) ?_
        refine (sguard_panicking (w.heap.size + 1) f w' _ _ hf1).mono ?_
        rintro e u' w2 ⟨rfl, rfl, hk2, hf2⟩
        have hl2 := hk2.heap (by omega) hl1
        have hne : ((f.err : Int) != 0) = true := by have := HBAD.out.1; simp; omega
        refine leaves_cons (f := 39) (args := #[.pointer (some ⟨w.heap.size + 1, 0, none⟩), .pointer (some ⟨w.heap.size, 0, none⟩)]) (by simp [settle]) (by simp [go_sem]) ?_
        refine (sclear_Parse (w.heap.size + 1) w.heap.size f.err f.pos _ w2 _ hf2 hl2 hne).mono ?_
        rintro e u' w3 ⟨rfl, rfl, hk3, hl3⟩
        have hf3 := hk3.heap (by omega) hf2
        have l0 := cellIn hl3 0 rfl
        have g0 := cellIn hf3 0 rfl
        have g1 := cellIn hf3 1 rfl
        simp [Leaves, settle, results, Tryz.results21, go_sem, l0, g0, g1]
        exact ⟨rfl, (((HK0.out.trans' hk (fun i hi hs => by rcases hs with hs | hs; exact absurd hs (by omega); cases hs)).trans' hk2 (fun i hi (hs : i = _) => by omega)).trans' hk3 (fun i hi (hs : i = _) => by omega)).below⟩
      · have hr : (if s.drop at' = [] then Ans.ok rs' else .bad ⟨2, at'⟩) = r := by rw [← HE.out, hp.out]; rfl
        obtain ⟨a9, c9, rfl⟩ := ho.form
        have hdone := ho
        have hat : at' ≤ s.length := hrd.2.1
        have c0 := hrd.c0
        have c1 := hrd.c1
        have hl1 := hk.heap (fun hs => by rcases hs with hs | hs; exact absurd hs (by omega); cases hs) HL0.out
        have hf1 := hk.heap (fun hs => by rcases hs with hs | hs; exact absurd hs (by omega); cases hs) HF0.out
        have l0 : w'.cell? ⟨w.heap.size, 0, none⟩ = some (.slice none 0 0) := cellIn hl1 0 rfl
        have l0f := freeIn hl1 0
        have g0 : w'.cell? ⟨w.heap.size + 1, 0, none⟩ = some (.int .i64 0) := cellIn hf1 0 rfl
        have g1 : w'.cell? ⟨w.heap.size + 1, 1, none⟩ = some (.int .i64 0) := cellIn hf1 1 rfl
        have g0f := freeIn hf1 0
        have g1f := freeIn hf1 1
        have HF := Lib.hid hf1
        have HL := Lib.hid hl1
        have HRD := Lib.hid hrd
        have HDN := Lib.hid hdone
        have HR0 := Lib.hid hr
        clear hl1 hf1 hrd hdone hr hp ho hfew
        by_cases hend : at' = s.length
        · obtain rfl : r = .ok rs' := by rw [← HR0.out, if_pos (by rw [hend]; simp)]
          have hd : decide ((at' : Int) < (s.length : Int)) = false := by simp; omega
          subst hend
          clear HR0
          go_wp2_with fail
          go_region
          go_wp2_with fail
          clear hmf HR HM
          simp only [bodyPostD]
          refine leaves_cons (f := 40) (args := #[.pointer (some ⟨w.heap.size + 1, 0, none⟩)]) (by simp) (by simp [go_sem]) ?_
          refine (sguard_idle _ _).mono ?_
          rintro e u' w2 ⟨rfl, rfl, hw2⟩
          have hkF : Kept (fun k => k = w.heap.size ∨ k = w.heap.size + 1) w' w2 := by
            rw [hw2]
            exact (((((Kept.refl _ w').setCell (p := ⟨w.heap.size, 0, none⟩) (.inl (.inl rfl)) _).setCell (p := ⟨w.heap.size, 0, none⟩) (.inl (.inl rfl)) _).setCell (p := ⟨w.heap.size + 1, 0, none⟩) (.inl (.inr rfl)) _).setCell (p := ⟨w.heap.size + 1, 1, none⟩) (.inl (.inr rfl)) _).drew
          have l1 : w2.cell? ⟨w.heap.size, 0, none⟩ = some (.slice a9 rs'.length c9) := by
            rw [hw2]
            exact cellIn (otherIn (otherIn (setIn (setIn HL.out 0 (.slice a9 rs'.length c9)) 0 (.slice a9 rs'.length c9)) ⟨w.heap.size + 1, 0, none⟩ _ (by show w.heap.size ≠ w.heap.size + 1; omega)) ⟨w.heap.size + 1, 1, none⟩ _ (by show w.heap.size ≠ w.heap.size + 1; omega)) 0 rfl
          have hf2 : w2.heap[w.heap.size + 1]? = some (.cells #[.int .i64 0, .int .i64 0] 26 (0, 0)) := by
            rw [hw2]
            exact setIn (setIn (otherIn (otherIn HF.out ⟨w.heap.size, 0, none⟩ (.slice a9 rs'.length c9) (by show w.heap.size + 1 ≠ w.heap.size; omega)) ⟨w.heap.size, 0, none⟩ (.slice a9 rs'.length c9) (by show w.heap.size + 1 ≠ w.heap.size; omega)) 0 (.int .i64 0)) 1 (.int .i64 0)
          clear hw2 l0 g0 g1
          refine leaves_cons (f := 39) (args := #[.pointer (some ⟨w.heap.size + 1, 0, none⟩), .pointer (some ⟨w.heap.size, 0, none⟩)]) (by simp [settle]) (by simp [go_sem]) ?_
          refine (sclear_Parse_idle (w.heap.size + 1) w.heap.size 0 _ w2 hf2).mono ?_
          rintro e u' w3 ⟨rfl, rfl, rfl⟩
          have g2 : w3.cell? ⟨w.heap.size + 1, 0, none⟩ = some (.int .i64 0) := cellIn hf2 0 rfl
          have g3 : w3.cell? ⟨w.heap.size + 1, 1, none⟩ = some (.int .i64 0) := cellIn hf2 1 rfl
          simp [Leaves, settle, results, Tryz.results21, go_sem, l1, g2, g3]
          refine ⟨_, vs', rfl, ((HK0.out.trans' hk (fun i hi hs => by rcases hs with hs | hs; exact absurd hs (by omega); cases hs)).trans' hkF (fun i hi hs => by rcases hs with hs | hs <;> omega)).below, ?_⟩
          refine ⟨HDN.out.len, (owns_kept HDN.out.own hkF (fun k hk hs => by have := (HDN.out.own.lt k hk).1; rcases hs with hs | hs <;> omega)).mono (by omega), fun i x u hx hu => ?_⟩
          exact rule_lasts _ _ _ _ _ _ _ (HDN.out.nest i x u hx hu) hkF (fun k _ hs => .inl (by rcases hs with hs | hs <;> omega)) (fun k _ hx => by
            rcases hx with hx | hx
            · exact .inl (by omega)
            · exact .inr hx)
        · obtain rfl : r = .bad ⟨2, at'⟩ := by
            rw [← HR0.out, if_neg]
            intro he
            have := congrArg List.length he
            simp at this
            omega
          have hd : (at' : Int) < (s.length : Int) := by omega
          clear HR0
          go_wp2_with fail
          have hrd2 : SdAt (w'.setCell ⟨w.heap.size, 0, none⟩ (.slice a9 rs'.length c9)) (w.heap.size + 2) s at' := ⟨otherIn HRD.out.1 ⟨w.heap.size, 0, none⟩ _ (by show w.heap.size + 2 ≠ w.heap.size; omega), HRD.out.2⟩
          refine (sfail_any 2 _ _ s at' hrd2).mono ?_
          rintro e w1 ⟨rfl, hq⟩
          have hl3 := (hq.kept (fun _ => False)).heap id (setIn HL.out 0 (.slice a9 rs'.length c9))
          have hf3 := (hq.kept (fun _ => False)).heap id (otherIn HF.out ⟨w.heap.size, 0, none⟩ (.slice a9 rs'.length c9) (by show w.heap.size + 1 ≠ w.heap.size; omega))
          have hk3 : Kept (fun k => k = w.heap.size ∨ k = w.heap.size + 2) w0 w1 := ((hk.mono (fun k _ hs => by rcases hs with hs | hs; exact .inr hs; cases hs)).setCell (p := ⟨w.heap.size, 0, none⟩) (.inl (.inl rfl)) _).trans (hq.kept _)
          have hne : (((2 : Nat) : Int) != 0) = true := by decide
          clear hmf HR HM hq
          simp only [bodyPostD]
          refine leaves_cons (f := 40) (args := #[.pointer (some ⟨w.heap.size + 1, 0, none⟩)]) (by simp) (by simp [go_sem]) ?_
          refine (sguard_panicking (w.heap.size + 1) ⟨2, at'⟩ w1 _ _ hf3).mono ?_
          rintro e u' w2 ⟨rfl, rfl, hk4, hf2⟩
          have hl2 := hk4.heap (by omega) hl3
          refine leaves_cons (f := 39) (args := #[.pointer (some ⟨w.heap.size + 1, 0, none⟩), .pointer (some ⟨w.heap.size, 0, none⟩)]) (by simp [settle]) (by simp [go_sem]) ?_
          refine (sclear_Parse (w.heap.size + 1) w.heap.size _ _ _ w2 _ hf2 hl2 hne).mono ?_
          rintro e u' w3 ⟨rfl, rfl, hk5, hl4⟩
          have hf4 := hk5.heap (by omega) hf2
          have l0 := cellIn hl4 0 rfl
          have g0 := cellIn hf4 0 rfl
          have g1 := cellIn hf4 1 rfl
          simp [Leaves, settle, results, Tryz.results21, go_sem, l0, g0, g1]
          exact ⟨rfl, (((HK0.out.trans' hk3 (fun i hi hs => by rcases hs with hs | hs <;> omega)).trans' hk4 (fun i hi (hs : i = _) => by omega)).trans' hk5 (fun i hi (hs : i = _) => by omega)).below⟩
end Go.Proofs.YtplbdlgmjehckadGreatDoor

namespace Go.Proofs.YtplbdlgmjehckadGreatDoor
open Go.RowKit
set_option linter.unusedVariables false
set_option linter.unusedSimpArgs false
theorem flatten_inv (size : Nat) : ∀ (rows : List (List Value)), (∀ r ∈ rows, r.length = size) → ∀ (j : Nat) (u : Value), rows.flatten[j]? = some u → ∃ i k r, rows[i]? = some r ∧ r[k]? = some u ∧ j = i * size + k
  | [], _, j, u, h => by simp at h
  | r0 :: rows, hl, j, u, h => by
    have h0 := hl r0 (by simp)
    simp only [List.flatten_cons] at h
    by_cases hj : j < r0.length
    · rw [List.getElem?_append_left hj] at h
      exact ⟨0, j, r0, rfl, h, by simp⟩
    · rw [List.getElem?_append_right (by omega)] at h
      obtain ⟨i, k, r, h1, h2, h3⟩ := flatten_inv size rows (fun r hr => hl r (by simp [hr])) _ u h
      exact ⟨i + 1, k, r, by simpa using h1, h2, by rw [Nat.succ_mul]; omega⟩
theorem add_at (b off j : Nat) : ((⟨b, off, none⟩ : Addr).add j) = ⟨b, off + j, none⟩ := by unfold Addr.add; split <;> simp_all
theorem RowsAt.news {w : World} {size b off n cap : Nat} {rows : List (List Value)} (h : RowsAt w size (.slice (some ⟨b, off, none⟩) n cap) rows) (hl : ∀ r ∈ rows, r.length = size) :
    ∀ j u, rows.flatten[j]? = some u → w.cell? ((⟨b, off, none⟩ : Addr).add j) = some u := fun j u hu => by
  obtain ⟨i, k, r, h1, h2, rfl⟩ := flatten_inv size rows hl j u hu
  obtain ⟨a', cap', hv, _, _, h4⟩ := h
  obtain ⟨b', off', hb, h5⟩ := h4 (by intro hn; subst hn; simp at h1)
  simp only [Value.slice.injEq] at hv
  obtain ⟨rfl, _, _⟩ := hv
  cases hb
  rw [add_at, ← Nat.add_assoc]
  exact h5 i r h1 k u h2
theorem flatten_len (size : Nat) : ∀ (rows : List (List Value)), (∀ r ∈ rows, r.length = size) → rows.flatten.length = rows.length * size
  | [], _ => by simp
  | r :: rows, h => by
    rw [List.flatten_cons, List.length_append, h r (by simp), flatten_len size rows (fun x hx => h x (by simp [hx])), List.length_cons, Nat.succ_mul]; omega
theorem RowsAt.addr {w : World} {size : Nat} {a : Option Addr} {n cap : Nat} {rows : List (List Value)} (h : RowsAt w size (.slice a n cap) rows) (hne : rows ≠ []) : ∃ b off, a = some ⟨b, off, none⟩ := by
  obtain ⟨a', cap', hv, _, _, h4⟩ := h
  obtain ⟨b', off', hb, _⟩ := h4 hne
  simp only [Value.slice.injEq] at hv
  obtain ⟨rfl, _, _⟩ := hv
  exact ⟨b', off', hb⟩
theorem RowsAt.len {w : World} {size : Nat} {a : Option Addr} {n cap : Nat} {rows : List (List Value)} (h : RowsAt w size (.slice a n cap) rows) : n = rows.length := by
  obtain ⟨a', cap', hv, _, _, h4⟩ := h
  simp only [Value.slice.injEq] at hv
  exact hv.2.1
end Go.Proofs.YtplbdlgmjehckadGreatDoor

namespace Go.Proofs.YtplbdlgmjehckadGreatDoor
open Go.RowKit
set_option linter.unusedVariables false
set_option linter.unusedSimpArgs false
section
variable {P : Program}
theorem append_any (w : World) (t ty : TypeId) (base : Nat) (e : TypeId) (i : TypeInfo) (z : Value) (size bytes : Nat) (ht : P.underlying t = some (.slice e)) (hi : P.info? e = some i) (hz : i.zero = some z)
    (hsize : i.size = size) (hby : i.bytes = bytes) (hzs : z.cells.size = size) (hsz : 0 < size)
    (ao : Option Addr) (n co : Nat) (xs : List Value) (hown : w.ownsRow base e size (.slice ao n co) n xs)
    (a : Option Addr) (m c : Nat) (rows : List (List Value)) (hr : RowsAt w size (.slice a m c) rows) (hl : ∀ r ∈ rows, r.length = size) (h1 : ∀ u ∈ rows.flatten, u.oneCell' = true)
    (h63 : n + m ≤ maxLen) (hbytes : (n + m) * bytes ≤ 140737488355328) (hbase : base ≤ w.heap.size) :
    ∃ a' c' w', (Builtin.append_ #[t, t] ty #[.slice ao n co, .slice a m c]).run P w = .ok (.slice a' (n + m) c') w' ∧ w'.ownsRow base e size (.slice a' (n + m) c') (n + m) (xs ++ rows.flatten) ∧
      Kept (fun k => (Value.slice ao n co).ownBlock = some k) w w' ∧ ((Value.slice a' (n + m) c').ownBlock = (Value.slice ao n co).ownBlock ∨ ∃ g, (Value.slice a' (n + m) c').ownBlock = some g ∧ w.heap.size ≤ g) := by
  have hm : m = rows.length := hr.len
  by_cases h0 : rows = []
  · subst h0
    simp only [List.length_nil] at hm
    subst hm
    have hle : n ≤ co := by
      rcases hown.2 with ⟨h, hn⟩ | ⟨g, cap, cur, hv, _, _, hnc, _⟩
      · simp only [Value.slice.injEq] at h; omega
      · simp only [Value.slice.injEq] at hv; omega
    have hs : Src P i.size t (.slice a 0 c) 0 [] w := by
      cases a with
      | none => exact Src.ofNil w ht c
      | some a => exact Src.ofSlice w ht a 0 c [] (by simp) (by simp) (by simp)
    refine ⟨ao, co, w, run_append_nothing w t t ty e i ht hi ao n co hle (.slice a 0 c) hs, by simpa using hown, Kept.refl _ _, .inl rfl⟩
  · obtain ⟨b, off, rfl⟩ := hr.addr h0
    have hpos : 0 < m := by rw [hm]; exact List.length_pos_iff.2 h0
    obtain ⟨g, cap, w', hrun, h2, h3, h4, h5⟩ := run_append_lies (P := P) w t ty base e i z size bytes ht hi hz hsize hby hzs hsz (.slice ao n co) n xs hown ⟨b, off, none⟩ m c rows.flatten (by rw [flatten_len size rows hl, hm]) (hr.news hl) h1 hpos h63 hbytes hbase w.heap.size rfl
    refine ⟨_, cap, w', hrun, h2, (Kept.refl _ w).grown h3 (fun k hk => .inl hk), ?_⟩
    rcases h4 with h4 | h4
    · exact .inl h4.symm
    · exact .inr ⟨g, rfl, by omega⟩
theorem wpList_append_eq {ops : Array Oper} {rest : List Oper} {o : Oper} {a : Act} {w : World} {Q : Exit → Act → World → Prop} (hw : Region.wanted o (yielded ops a.tmps) = true) (s x : Operand) (t : TypeId)
    (ho : o.op = .call { callee := .builtin .append, args := #[s, x], argTypes := #[t, t] }) (sv xv v : Value) (hs : a.eval s = sv) (hx : a.eval x = xv) (w' : World)
    (hr : (Builtin.append_ #[t, t] o.type #[sv, xv]).run P w = .ok v w') (h : wpList P ops Q rest (a.put o.dst v) w') : wpList P ops Q (o :: rest) a w :=
  wpList_step fun K hK => by
    rw [if_pos hw]
    unfold Oper.wp execOp
    simp only [ho, resolve, invoke, builtin, Sem.run_bind, Sem.run_pure, Result.andThen_ok, List.map_toArray, List.map_cons, List.map_nil, hs, hx, hr]
    exact hK _ _ h
end
end Go.Proofs.YtplbdlgmjehckadGreatDoor

namespace Go.Proofs.YtplbdlgmjehckadGreatDoor
open Go.RowKit
set_option linter.unusedVariables false
set_option linter.unusedSimpArgs false
theorem flatten_set (size : Nat) : ∀ (rows : List (List Value)), (∀ r ∈ rows, r.length = size) → ∀ (k j : Nat) (r : List Value) (c : Value), rows[k]? = some r → j < size → rows.flatten.set (k * size + j) c = (rows.set k (r.set j c)).flatten
  | [], _, k, j, r, c, h, _ => by simp at h
  | r0 :: rows, hl, k, j, r, c, h, hj => by
    have h0 := hl r0 (by simp)
    cases k with
    | zero =>
      simp only [List.getElem?_cons_zero, Option.some.injEq] at h
      subst h
      simp only [Nat.zero_mul, Nat.zero_add, List.flatten_cons, List.set_cons_zero]
      rw [List.set_append_left _ _ (by omega)]
    | succ k =>
      simp only [List.getElem?_cons_succ] at h
      simp only [List.flatten_cons, List.set_cons_succ]
      rw [List.set_append_right _ _ (by rw [h0, Nat.succ_mul]; omega)]
      have := flatten_set size rows (fun r hr => hl r (by simp [hr])) k j r c h hj
      rw [← this]
      congr 2
      rw [h0, Nat.succ_mul]; omega
theorem owns_put {w : World} {base e size n k j : Nat} {a : Option Addr} {m cap g : Nat} {rows : List (List Value)} {r : List Value} (h : w.ownsRow base e size (.slice (some ⟨g, 0, none⟩) m cap) n rows.flatten) (hl : ∀ r ∈ rows, r.length = size) (hn : rows.length = n) (hk : rows[k]? = some r) (hj : j < size) (c : Value) :
    (w.setCell ⟨g, k * size + j, none⟩ c).ownsRow base e size (.slice (some ⟨g, 0, none⟩) m cap) n (rows.set k (r.set j c)).flatten := by
  obtain ⟨h1, h2⟩ := h
  rw [← flatten_set size rows hl k j r c hk hj]
  refine ⟨by simpa using h1, .inr ?_⟩
  rcases h2 with ⟨h2, _⟩ | ⟨g', cap', cur, hv, hb, hg, hnc, hcm, hcs, htake⟩
  · cases h2
  · cases hv
    refine ⟨g, cap, _, rfl, hb, setIn hg _ c, hnc, hcm, by simpa using hcs, ?_⟩
    have hkn : k < n := by rw [← hn]; exact (List.getElem?_eq_some_iff.1 hk).1
    rw [Array.toList_setIfInBounds, List.take_set, htake]
theorem zipWith_set_left {α β γ : Type} (f : α → β → γ) : ∀ (xs : List α) (vs : List β) (k : Nat) (x : α) (u : β), vs[k]? = some u → List.zipWith f (xs.set k x) vs = (List.zipWith f xs vs).set k (f x u)
  | [], vs, k, x, u, h => by simp
  | y :: xs, [], k, x, u, h => by simp at h
  | y :: xs, v :: vs, 0, x, u, h => by simp at h; simp [h]
  | y :: xs, v :: vs, k + 1, x, u, h => by simp at h; simp [zipWith_set_left f xs vs k x u h]
end Go.Proofs.YtplbdlgmjehckadGreatDoor

namespace Go.Proofs.YtplbdlgmjehckadGreatDoor
open Go.RowKit
set_option linter.unusedVariables false
set_option linter.unusedSimpArgs false
theorem NestOwn.put {α : Type} {f : α → Value → List Value} {size e : Nat} {Q : World → (Nat → Prop) → Value → α → Prop} {w : World} {base g m cap k j : Nat} {xs : List α} {vs : List Value} {x x' : α} {c : Value}
    (h : NestOwn f size e Q w base (.slice (some ⟨g, 0, none⟩) m cap) xs vs) (hf : ∀ a v, (f a v).length = size) (hQ : Lasts Q) (hx : xs[k]? = some x) (hj : j < size) (hset : ∀ u, (f x u).set j c = f x' u) (hQx : ∀ w X u, Q w X u x → Q w X u x') :
    NestOwn f size e Q (w.setCell ⟨g, k * size + j, none⟩ c) base (.slice (some ⟨g, 0, none⟩) m cap) (xs.set k x') vs := by
  have hk := (List.getElem?_eq_some_iff.1 hx).1
  have hu : vs[k]? = some (vs[k]'(by rw [h.len]; exact hk)) := List.getElem?_eq_getElem _
  refine ⟨by rw [h.len]; simp, ?_, fun i y u hy hu' => ?_⟩
  · rw [zipWith_set_left f xs vs k x' _ hu, ← hset, List.length_set]
    exact owns_put (a := none) h.own (zipRows hf) (by simp [h.len]) (by simp [List.getElem?_zipWith, hx, hu]) hj c
  · have hkept : Kept (· = g) w (w.setCell ⟨g, k * size + j, none⟩ c) := (Kept.refl (· = g) w).setCell (p := ⟨g, k * size + j, none⟩) (.inl rfl) c
    have new : ∀ y, Q w (fun k => k < base ∨ (Value.slice (some ⟨g, 0, none⟩) m cap).ownBlock = some k) u y → Q (w.setCell ⟨g, k * size + j, none⟩ c) (fun k => k < base ∨ (Value.slice (some ⟨g, 0, none⟩) m cap).ownBlock = some k) u y := fun y hq =>
      hQ _ _ _ _ _ _ _ hq hkept (fun q _ (hs : q = g) => .inr (by rw [hs]; rfl)) (fun _ _ hx => hx)
    by_cases hik : i = k
    · subst hik
      rw [List.getElem?_set_self hk] at hy
      cases hy
      exact new _ (hQx _ _ _ (h.nest i x u hx hu'))
    · rw [List.getElem?_set_ne (fun h => hik h.symm)] at hy
      exact new _ (h.nest i y u hy hu')
end Go.Proofs.YtplbdlgmjehckadGreatDoor

namespace Go.Proofs.YtplbdlgmjehckadGreatDoor
open Go.RowKit
set_option linter.unusedVariables false
set_option linter.unusedSimpArgs false
def attrCells (a : PAttr) : List Value := [.string (str a.name), .string (str a.val), .int .i64 a.lo, .int .i64 a.hi]
def AttrsAt (w : World) (v : Value) (al : List PAttr) : Prop := RowsAt w 4 v (al.map attrCells)
theorem AttrsAt.form {w : World} {v : Value} {al : List PAttr} (h : AttrsAt w v al) : ∃ a cap, v = .slice a al.length cap ∧ al.length ≤ cap ∧ cap ≤ maxLen := by
  obtain ⟨a, cap, hv, h1, h2, h3⟩ := h
  simp only [List.length_map] at hv h1
  exact ⟨a, cap, hv, h1, h2⟩
theorem AttrsAt.at {w : World} {a : Option Addr} {n cap : Nat} {al : List PAttr} (h : AttrsAt w (.slice a n cap) al) {k : Nat} {x : PAttr} (hx : al[k]? = some x) :
    ∃ b off, a = some ⟨b, off, none⟩ ∧ w.cell? ⟨b, off + k * 4, none⟩ = some (.string (str x.name)) ∧ w.cell? ⟨b, off + k * 4 + 1, none⟩ = some (.string (str x.val)) ∧
      w.cell? ⟨b, off + k * 4 + 2, none⟩ = some (.int .i64 x.lo) ∧ w.cell? ⟨b, off + k * 4 + 3, none⟩ = some (.int .i64 x.hi) := by
  obtain ⟨a', cap', hv, h1, h2, h3⟩ := h
  simp only [Value.slice.injEq] at hv
  obtain ⟨rfl, _, _⟩ := hv
  obtain ⟨b, off, ha, h4⟩ := h3 (by intro hn; rw [List.map_eq_nil_iff] at hn; subst hn; simp at hx)
  have := h4 k (attrCells x) (by simp [hx])
  exact ⟨b, off, ha, this 0 _ rfl, this 1 _ rfl, this 2 _ rfl, this 3 _ rfl⟩
def nodeCells (n : PNode) (av : Value) : List Value := [.string (str n.name), .int .i64 n.parent, av, .int .i64 n.nameEnd, .int .i64 n.inF, .int .i64 n.inT]
theorem zip_rows {ns : List PNode} {avs : List Value} : ∀ r ∈ List.zipWith nodeCells ns avs, r.length = 6 := by
  intro r hr
  obtain ⟨i, hi, rfl⟩ := List.mem_iff_getElem.1 hr
  simp [nodeCells]
def NodesAt (w : World) (v : Value) (ns : List PNode) : Prop :=
  ∃ avs : List Value, avs.length = ns.length ∧ RowsAt w 6 v (List.zipWith nodeCells ns avs) ∧ ∀ (i : Nat) (n : PNode) (av : Value), ns[i]? = some n → avs[i]? = some av → AttrsAt w av n.attrs
theorem NodesAt.kept {w w' : World} {v : Value} {ns : List PNode} (h : NodesAt w v ns) (hb : Below w.heap.size w w') : NodesAt w' v ns := by
  obtain ⟨avs, h1, h2, h3⟩ := h
  exact ⟨avs, h1, h2.below hb, fun i n av hn ha => (h3 i n av hn ha).below hb⟩
theorem NodesAt.form {w : World} {v : Value} {ns : List PNode} (h : NodesAt w v ns) : ∃ a cap, v = .slice a ns.length cap ∧ ns.length ≤ cap ∧ cap ≤ maxLen := by
  obtain ⟨avs, h1, ⟨a, cap, hv, h2, h3, _⟩, _⟩ := h
  have e : (List.zipWith nodeCells ns avs).length = ns.length := by simp [h1]
  rw [e] at hv h2
  exact ⟨a, cap, hv, h2, h3⟩
theorem NodesAt.at {w : World} {a : Option Addr} {n cap : Nat} {ns : List PNode} (h : NodesAt w (.slice a n cap) ns) {k : Nat} {x : PNode} (hx : ns[k]? = some x) :
    ∃ b off av, a = some ⟨b, off, none⟩ ∧ w.cell? ⟨b, off + k * 6, none⟩ = some (.string (str x.name)) ∧ w.cell? ⟨b, off + k * 6 + 1, none⟩ = some (.int .i64 x.parent) ∧
      w.cell? ⟨b, off + k * 6 + 2, none⟩ = some av ∧ w.cell? ⟨b, off + k * 6 + 3, none⟩ = some (.int .i64 x.nameEnd) ∧ w.cell? ⟨b, off + k * 6 + 4, none⟩ = some (.int .i64 x.inF) ∧
      w.cell? ⟨b, off + k * 6 + 5, none⟩ = some (.int .i64 x.inT) ∧ AttrsAt w av x.attrs := by
  obtain ⟨avs, h1, ⟨a', cap', hv, h2, h3, h4⟩, h5⟩ := h
  simp only [Value.slice.injEq] at hv
  obtain ⟨rfl, _, _⟩ := hv
  have hk := (List.getElem?_eq_some_iff.1 hx).1
  have ha : avs[k]? = some (avs[k]'(by omega)) := List.getElem?_eq_getElem _
  have hz : (List.zipWith nodeCells ns avs)[k]? = some (nodeCells x (avs[k]'(by omega))) := by simp [List.getElem?_zipWith, hx, ha]
  obtain ⟨b, off, rfl, h6⟩ := h4 (by intro hn; rw [hn] at hz; simp at hz)
  have := h6 k _ hz
  exact ⟨b, off, _, rfl, this 0 _ rfl, this 1 _ rfl, this 2 _ rfl, this 3 _ rfl, this 4 _ rfl, this 5 _ rfl, h5 k x _ hx ha⟩
theorem NodesAt.quiet {w w' : World} {v : Value} {ns : List PNode} (h : NodesAt w v ns) (hq : Qt w w') : NodesAt w' v ns := h.kept ((hq.kept (fun _ => False)).below)
end Go.Proofs.YtplbdlgmjehckadGreatDoor

namespace Go.Proofs.YtplbdlgmjehckadGreatDoor
open Go.RowKit
set_option linter.unusedVariables false
set_option linter.unusedSimpArgs false
def NestAt {α : Type} (f : α → Value → List Value) (size : Nat) (Q : World → Value → α → Prop) (w : World) (v : Value) (xs : List α) : Prop :=
  ∃ vs : List Value, vs.length = xs.length ∧ RowsAt w size v (List.zipWith f xs vs) ∧ ∀ (i : Nat) (x : α) (u : Value), xs[i]? = some x → vs[i]? = some u → Q w u x
def Firm {α : Type} (Q : World → Value → α → Prop) : Prop := ∀ (w w' : World) (u : Value) (x : α), Q w u x → Below w.heap.size w w' → Q w' u x
theorem nest_firm {α : Type} {f : α → Value → List Value} {size : Nat} {Q : World → Value → α → Prop} (hQ : Firm Q) : Firm (NestAt f size Q) := by
  intro w w' v xs ⟨vs, h1, h2, h3⟩ hb
  exact ⟨vs, h1, h2.below hb, fun i x u hx hu => hQ _ _ _ _ (h3 i x u hx hu) hb⟩
theorem Firm.quiet {α : Type} {Q : World → Value → α → Prop} (hQ : Firm Q) {w w' : World} {u : Value} {x : α} (h : Q w u x) (hq : Qt w w') : Q w' u x := hQ _ _ _ _ h ((hq.kept (fun _ => False)).below)
theorem Firm.kept {α : Type} {Q : World → Value → α → Prop} (hQ : Firm Q) {w w' : World} {u : Value} {x : α} (h : Q w u x) (hq : Kept (fun _ => False) w w') : Q w' u x := hQ _ _ _ _ h hq.below
section
variable {α : Type} {f : α → Value → List Value} {size : Nat} {Q : World → Value → α → Prop} {w w' : World} {v : Value} {xs : List α}
theorem NestAt.form (h : NestAt f size Q w v xs) : ∃ a cap, v = .slice a xs.length cap ∧ xs.length ≤ cap ∧ cap ≤ maxLen := by
  obtain ⟨vs, h0, ⟨a, cap, e, h1, h2, _⟩, _⟩ := h
  exact ⟨a, cap, by rw [e]; simp [h0], by simpa [h0] using h1, h2⟩
theorem NestAt.at {a : Option Addr} {n cap : Nat} (h : NestAt f size Q w (.slice a n cap) xs) {k : Nat} {x : α} (hx : xs[k]? = some x) :
    ∃ b off u, a = some ⟨b, off, none⟩ ∧ (∀ j c, (f x u)[j]? = some c → w.cell? ⟨b, off + k * size + j, none⟩ = some c) ∧ Q w u x := by
  obtain ⟨vs, h0, h1, h4⟩ := h
  have hk := (List.getElem?_eq_some_iff.1 hx).1
  have hu : vs[k]? = some (vs[k]'(by omega)) := List.getElem?_eq_getElem _
  obtain ⟨b, off, ha, h5⟩ := RowsAt.at h1 (k := k) (r := f x (vs[k]'(by omega))) (by simp [List.getElem?_zipWith, hx, hu])
  exact ⟨b, off, _, ha, h5, h4 k x _ hx hu⟩
end
def DeclsAt (w : World) (v : Value) (ds : List PDecl) : Prop := RowsAt w 3 v (ds.map declCells)
def TestsAt (w : World) (v : Value) (ts : List PTest) : Prop := RowsAt w 3 v (ts.map testCells)
def PartsAt (w : World) (v : Value) (ps : List PPart) : Prop := NestAt partCells 2 (fun w u (p : PPart) => TestsAt w u p.tests) w v ps
def SelsAt (w : World) (v : Value) (ss : List PSel) : Prop := NestAt selCells 1 PartsAt w v ss
def RuleAt (w : World) (u : Value) (r : PRule) : Prop := ∃ sv dv, u = .tuple #[sv, dv] ∧ SelsAt w sv r.sels ∧ DeclsAt w dv r.decls
def RulesAt (w : World) (v : Value) (rs : List PRule) : Prop := NestAt ruleCells 5 RuleAt w v rs
def StrsAt (w : World) (v : Value) (ss : List B) : Prop := RowsAt w 1 v (ss.map fun x => [Value.string (str x)])
theorem decls_firm : Firm DeclsAt := fun _ _ _ _ h hb => RowsAt.below h hb
theorem tests_firm : Firm TestsAt := fun _ _ _ _ h hb => RowsAt.below h hb
theorem part_firm : Firm (fun w u (p : PPart) => TestsAt w u p.tests) := fun _ _ _ _ h hb => RowsAt.below h hb
theorem parts_firm : Firm PartsAt := nest_firm part_firm
theorem sels_firm : Firm SelsAt := nest_firm parts_firm
theorem rule_firm : Firm RuleAt := fun _ _ _ _ ⟨sv, dv, h1, h2, h3⟩ hb => ⟨sv, dv, h1, sels_firm _ _ _ _ h2 hb, decls_firm _ _ _ _ h3 hb⟩
theorem rules_firm : Firm RulesAt := nest_firm rule_firm
theorem nodes_firm : Firm NodesAt := fun _ _ _ _ h hb => h.kept hb
theorem NestIn.reads {α : Type} {f : α → Value → List Value} {size : Nat} {Q : World → (Nat → Prop) → Value → α → Prop} {Q' : World → Value → α → Prop} (hQ : ∀ w X u x, Q w X u x → Q' w u x) {w : World} {X : Nat → Prop} {v : Value} {xs : List α} (h : NestIn f size Q w X v xs) : NestAt f size Q' w v xs := by
  obtain ⟨vs, h0, h1, _, h4⟩ := h
  exact ⟨vs, h0, h1, fun i x u hx hu => hQ _ _ _ _ (h4 i x u hx hu)⟩
theorem parts_reads {w : World} {X : Nat → Prop} {v : Value} {ps : List PPart} (h : PartsIn w X v ps) : PartsAt w v ps := h.reads (fun _ _ _ _ h => h.1)
theorem sels_reads {w : World} {X : Nat → Prop} {v : Value} {ss : List PSel} (h : SelsIn w X v ss) : SelsAt w v ss := h.reads (fun _ _ _ _ h => parts_reads h)
theorem rule_reads {w : World} {X : Nat → Prop} {u : Value} {r : PRule} (h : RuleIn w X u r) : RuleAt w u r := by
  obtain ⟨sv, dv, h1, h2, h3⟩ := h
  exact ⟨sv, dv, h1, sels_reads h2, h3.1⟩
theorem rules_reads {w : World} {X : Nat → Prop} {v : Value} {rs : List PRule} (h : RulesIn w X v rs) : RulesAt w v rs := h.reads (fun _ _ _ _ h => rule_reads h)
section
variable {w w' : World} {v : Value} {ds : List PDecl} {ts : List PTest} {ss : List B}
theorem DeclsAt.form (h : DeclsAt w v ds) : ∃ a cap, v = .slice a ds.length cap ∧ ds.length ≤ cap ∧ cap ≤ maxLen := by
  obtain ⟨a, cap, e, h1, h2, _⟩ := h
  exact ⟨a, cap, by rw [e, List.length_map], by simpa using h1, h2⟩
theorem DeclsAt.at {a : Option Addr} {n cap : Nat} (h : DeclsAt w (.slice a n cap) ds) {k : Nat} {x : PDecl} (hx : ds[k]? = some x) :
    ∃ b off, a = some ⟨b, off, none⟩ ∧ w.cell? ⟨b, off + k * 3, none⟩ = some (.string (str x.name)) ∧ w.cell? ⟨b, off + k * 3 + 1, none⟩ = some (.string (str x.val)) ∧ w.cell? ⟨b, off + k * 3 + 2, none⟩ = some (.bool x.strong) := by
  obtain ⟨b, off, ha, h4⟩ := RowsAt.at h (k := k) (r := declCells x) (by simp [hx])
  exact ⟨b, off, ha, h4 0 _ rfl, h4 1 _ rfl, h4 2 _ rfl⟩
theorem TestsAt.form (h : TestsAt w v ts) : ∃ a cap, v = .slice a ts.length cap ∧ ts.length ≤ cap ∧ cap ≤ maxLen := by
  obtain ⟨a, cap, e, h1, h2, _⟩ := h
  exact ⟨a, cap, by rw [e, List.length_map], by simpa using h1, h2⟩
theorem TestsAt.at {a : Option Addr} {n cap : Nat} (h : TestsAt w (.slice a n cap) ts) {k : Nat} {x : PTest} (hx : ts[k]? = some x) :
    ∃ b off, a = some ⟨b, off, none⟩ ∧ w.cell? ⟨b, off + k * 3, none⟩ = some (.int .i64 x.kind) ∧ w.cell? ⟨b, off + k * 3 + 1, none⟩ = some (.string (str x.name)) ∧ w.cell? ⟨b, off + k * 3 + 2, none⟩ = some (.string (str x.val)) := by
  obtain ⟨b, off, ha, h4⟩ := RowsAt.at h (k := k) (r := testCells x) (by simp [hx])
  exact ⟨b, off, ha, h4 0 _ rfl, h4 1 _ rfl, h4 2 _ rfl⟩
theorem StrsAt.form (h : StrsAt w v ss) : ∃ a cap, v = .slice a ss.length cap ∧ ss.length ≤ cap ∧ cap ≤ maxLen := by
  obtain ⟨a, cap, e, h1, h2, _⟩ := h
  exact ⟨a, cap, by rw [e, List.length_map], by simpa using h1, h2⟩
theorem StrsAt.at {a : Option Addr} {n cap : Nat} (h : StrsAt w (.slice a n cap) ss) {k : Nat} {x : B} (hx : ss[k]? = some x) :
    ∃ b off, a = some ⟨b, off, none⟩ ∧ w.cell? ⟨b, off + k, none⟩ = some (.string (str x)) := by
  obtain ⟨b, off, ha, h4⟩ := RowsAt.at h (k := k) (r := [Value.string (str x)]) (by simp [hx])
  exact ⟨b, off, ha, by simpa using h4 0 _ rfl⟩
end
end Go.Proofs.YtplbdlgmjehckadGreatDoor

namespace Go.Proofs.YtplbdlgmjehckadGreatDoor
open Go.RowKit
set_option linter.unusedVariables false
set_option linter.unusedSimpArgs false
theorem ruleO_ones {w : World} {X : Nat → Prop} {xs : List PRule} {vs : List Value} (h : ∀ (i : Nat) (x : PRule) (u : Value), xs[i]? = some x → vs[i]? = some u → RuleIn w X u x) : ∀ c ∈ (List.zipWith ruleCells xs vs).flatten, c.oneCell' = true := by
  intro c hc
  obtain ⟨r, hr, hc⟩ := List.mem_flatten.1 hc
  obtain ⟨i, hi, rfl⟩ := List.mem_iff_getElem.1 hr
  simp only [List.length_zipWith] at hi
  rw [List.getElem_zipWith] at hc
  obtain ⟨sv, dv, hu, hs, hd⟩ := h i _ _ (List.getElem?_eq_getElem (by omega)) (List.getElem?_eq_getElem (by omega))
  rw [hu] at hc
  obtain ⟨_, _, rfl, _⟩ := NestIn.form hs
  obtain ⟨_, _, rfl, _⟩ := DeclsIn.form hd
  simp only [ruleCells, vFst, vSnd, List.mem_cons, List.not_mem_nil, or_false] at hc
  rcases hc with rfl | rfl | rfl | rfl | rfl <;> rfl
theorem RulesOwn.app {wx : World} {base base2 : Nat} {ao a : Option Addr} {co c : Nat} {rs qs : List PRule} {vs vs2 : List Value}
    (h1 : RulesOwn wx base (.slice ao rs.length co) rs vs) (h2 : RulesOwn wx base2 (.slice a qs.length c) qs vs2) (hb : base ≤ base2) (hb2 : base2 ≤ wx.heap.size) (hlow : ∀ k, (Value.slice ao rs.length co).ownBlock = some k → k < base2) (hlen : rs.length + qs.length ≤ 1000000) :
    ∃ a' c' w', (Builtin.append_ #[30, 30] 30 #[.slice ao rs.length co, .slice a qs.length c]).run Tryz.prog wx = .ok (.slice a' (rs.length + qs.length) c') w' ∧
      RulesOwn w' base (.slice a' (rs.length + qs.length) c') (rs ++ qs) (vs ++ vs2) ∧ Kept (fun k => (Value.slice ao rs.length co).ownBlock = some k) wx w' := by
  obtain ⟨i0, hi0, hz0, hz1, hz2⟩ := info_parts info_rule
  have hrows : RowsAt wx 5 (.slice a qs.length c) (List.zipWith ruleCells qs vs2) := rowsAt_of_owns (zipRows ruleCells_len) (by simp [h2.len]) h2.own
  obtain ⟨a', c', w', hr, ho, hk, hown⟩ := append_any (P := Tryz.prog) wx 30 30 base 49 i0 _ 5 80 Tryz.underlying30 hi0 hz0 hz1 hz2 rfl (by omega) ao rs.length co _ h1.own a qs.length c _ hrows (zipRows ruleCells_len) (ruleO_ones h2.nest) (by unfold maxLen; omega) (by omega) (by omega)
  refine ⟨a', c', w', hr, ⟨by simp [h1.len, h2.len], ?_, fun i x u hx hu => ?_⟩, hk⟩
  · rw [List.zipWith_append (by rw [h1.len]), List.flatten_append, List.length_append]
    exact ho
  · have hnew : ∀ k, k < wx.heap.size → (Value.slice a' (rs.length + qs.length) c').ownBlock = some k → (Value.slice ao rs.length co).ownBlock = some k := fun k hk' e => by
      rcases hown with h | ⟨g, h, hg⟩
      · rw [← h]; exact e
      · rw [h] at e; cases e; omega
    by_cases hi : i < rs.length
    · rw [List.getElem?_append_left hi] at hx
      rw [List.getElem?_append_left (by rw [h1.len]; exact hi)] at hu
      exact rule_lasts _ _ _ _ _ _ _ (h1.nest i x u hx hu) hk (fun k _ h => .inr h) (fun k hk' h => h.imp id (hnew k hk'))
    · rw [List.getElem?_append_right (by omega)] at hx
      rw [List.getElem?_append_right (by rw [h1.len]; omega), h1.len] at hu
      exact rule_lasts _ _ _ _ _ _ _ (h2.nest _ x u hx hu) hk (fun k _ h => .inl (hlow k h)) (fun k hk' h => .inl (by
        rcases h with h | h
        · omega
        · exact hlow k (hnew k hk' h)))
def shiftTo (d : Nat) (bs : List PRule) (k : Nat) : List PRule := (bs.take k).map (PRule.shift d) ++ bs.drop k
theorem shiftTo_len (d : Nat) (bs : List PRule) (k : Nat) : (shiftTo d bs k).length = bs.length := by simp [shiftTo]; omega
theorem shiftTo_get {d : Nat} {bs : List PRule} {k : Nat} {x : PRule} (hx : bs[k]? = some x) : (shiftTo d bs k)[k]? = some x := by
  have hlt := (List.getElem?_eq_some_iff.1 hx).1
  unfold shiftTo
  rw [List.getElem?_append_right (by simp; omega)]
  simp only [List.length_map, List.length_take, List.getElem?_drop]
  rw [show k + (k - min k bs.length) = k from by omega, hx]
theorem shiftTo_set {d : Nat} {bs : List PRule} {k : Nat} {x y : PRule} (hx : bs[k]? = some x) : ((shiftTo d bs k).set k y).set k (x.shift d) = shiftTo d bs (k + 1) := by
  have hlt := (List.getElem?_eq_some_iff.1 hx).1
  unfold shiftTo
  rw [List.set_set, List.take_add_one, hx, List.set_append_right _ _ (by simp; omega)]
  have e2 : k - ((bs.take k).map (PRule.shift d)).length = 0 := by simp; omega
  rw [e2]
  have e3 : bs.drop k = x :: bs.drop (k + 1) := by
    obtain ⟨h1, h2⟩ := List.getElem?_eq_some_iff.1 hx
    rw [List.drop_eq_getElem_cons h1, h2]
  rw [e3]; simp
theorem shiftTo_done (d : Nat) (bs : List PRule) : shiftTo d bs bs.length = bs.map (PRule.shift d) := by simp [shiftTo]
theorem RulesOwn.block {w : World} {base m cap k : Nat} {a : Option Addr} {xs : List PRule} {vs : List Value} {x : PRule} (h : RulesOwn w base (.slice a m cap) xs vs) (hx : xs[k]? = some x) :
    ∃ g cur u, a = some ⟨g, 0, none⟩ ∧ w.heap[g]? = some (.cells cur 49 (0, 0)) ∧ base ≤ g ∧ (∀ j c, (ruleCells x u)[j]? = some c → w.cell? ⟨g, k * 5 + j, none⟩ = some c) := by
  have hk := (List.getElem?_eq_some_iff.1 hx).1
  rcases h.own.2 with ⟨h1, hn⟩ | ⟨g, cap', cur, hv, hb, hg, _⟩
  · omega
  · cases hv
    obtain ⟨b, off, u, hbb, hc, _⟩ := NestIn.at (h.done ruleCells_len rule_lasts) hx
    cases hbb
    refine ⟨g, cur, u, rfl, hg, hb, fun j c hj => ?_⟩
    have := hc j c hj
    rwa [Nat.zero_add] at this
end Go.Proofs.YtplbdlgmjehckadGreatDoor

namespace Go.Proofs.YtplbdlgmjehckadGreatDoor
open Go.RowKit
set_option linter.unusedVariables false
set_option linter.unusedSimpArgs false
theorem set_top (w : World) (o o' : Obj) : { (w.alloc o) with heap := (w.alloc o).heap.setIfInBounds w.heap.size o' } = w.alloc o' := by
  have h : ((w.alloc o).heap.setIfInBounds w.heap.size o') = (w.alloc o').heap := by
    show ((w.heap.push o).setIfInBounds w.heap.size o') = w.heap.push o'
    apply Array.ext
    · simp
    · intro i h1 h2
      rw [Array.getElem_setIfInBounds]
      · by_cases hi : w.heap.size = i
        · subst hi; simp
        · have : i < w.heap.size := by simp at h2; omega
          rw [if_neg hi, Array.getElem_push_lt this, Array.getElem_push_lt this]
      · simpa using h1
  rw [h]; rfl
section
variable {P : Program} {mty kt et : TypeId} {kind : TypeDesc}
theorem run_made (w : World) (t : TypeId) : (Instr.makeMap t none).run P w = .ok (.map (some w.heap.size)) (w.alloc (.map #[] 0)) := rfl
theorem run_insert_top (hm : P.underlying mty = some (.map kt et)) (hk : P.underlying kt = some kind) (w : World) {es : Array MapEntry} {c : Nat} {k v : Value} (hik : MapKept.IsKey kind k) (hf : Instr.findNow kind k es.toList 0 = some none) :
    (Instr.mapUpdate mty (.map (some w.heap.size)) k v).run P (w.alloc (.map es c)) = .ok () (w.alloc (.map (es.push ⟨k, v, c⟩) (c + 1))) := by
  have hb : (w.alloc (.map es c)).heap[w.heap.size]? = some (.map es c) := newIn w _
  have hc : (Instr.checkKey false 10000 kt k).run P (w.alloc (.map es c)) = .ok () (w.alloc (.map es c)) := MapKept.run_checkKey hk hik false 9999
  have h1 : (Instr.mapUpdate mty (.map (some w.heap.size)) k v).run P (w.alloc (.map es c)) = .ok () { (w.alloc (.map es c)) with heap := (w.alloc (.map es c)).heap.setIfInBounds w.heap.size (.map (es.push ⟨k, v, c⟩) (c + 1)) } := by
    simp [Instr.mapUpdate, run_underlying hm, MapKept.run_getObj_map hb, hc, MapKept.run_findKey hk hf, MapKept.run_setObj_map _ hb, Result.andThen]
  rw [h1, set_top]
theorem run_look_hit (hm : P.underlying mty = some (.map kt et)) (hk : P.underlying kt = some kind) {w : World} {r : Nat} {es : Array MapEntry} {c i : Nat} {k v : Value} (hb : w.heap[r]? = some (.map es c)) (hik : MapKept.IsKey kind k) (hf : Instr.findNow kind k es.toList 0 = some (some (i, v))) (ok : Bool) :
    (Instr.lookup mty (.map (some r)) k ok).run P w = .ok (if ok then .tuple #[v, .bool true] else v) w := by
  have hc : (Instr.checkKey es.isEmpty 10000 kt k).run P w = .ok () w := MapKept.run_checkKey hk hik _ 9999
  simp [Instr.lookup, run_underlying hm, MapKept.run_getObj_map hb, hc, MapKept.run_findKey hk hf, Result.andThen]
theorem run_look_miss (hm : P.underlying mty = some (.map kt et)) (hk : P.underlying kt = some kind) {w : World} {r : Nat} {es : Array MapEntry} {c : Nat} {k z : Value} (hb : w.heap[r]? = some (.map es c)) (hik : MapKept.IsKey kind k) (hf : Instr.findNow kind k es.toList 0 = some none) (hz : (zeroValue et).run P w = .ok z w) (ok : Bool) :
    (Instr.lookup mty (.map (some r)) k ok).run P w = .ok (if ok then .tuple #[z, .bool false] else z) w := by
  have hc : (Instr.checkKey es.isEmpty 10000 kt k).run P w = .ok () w := MapKept.run_checkKey hk hik _ 9999
  simp [Instr.lookup, run_underlying hm, MapKept.run_getObj_map hb, hc, MapKept.run_findKey hk hf, hz, Result.andThen]
end
end Go.Proofs.YtplbdlgmjehckadGreatDoor

namespace Go.Proofs.YtplbdlgmjehckadGreatDoor
open Go.RowKit
set_option linter.unusedVariables false
set_option linter.unusedSimpArgs false
structure MapFn (d : TypeDesc) (w : World) (b : Nat) (f : Value → Option Value) : Prop where
  ex : ∃ es c, w.heap[b]? = some (.map es c) ∧ (∀ x ∈ es.toList, MapKept.IsKey d x.key) ∧ MapKept.Stamped es c ∧ ∀ k, MapKept.IsKey d k → ∀ v, f k = some v ↔ ∃ x ∈ es.toList, x.key = k ∧ x.val = v
theorem MapFn.made (d : TypeDesc) (w : World) : MapFn d (w.alloc (.map #[] 0)) w.heap.size (fun _ => none) :=
  ⟨⟨#[], 0, newIn w _, by simp, MapKept.stamped_empty 0, by simp⟩⟩
theorem MapFn.kept {d : TypeDesc} {S : Nat → Prop} {w w' : World} {b : Nat} {f : Value → Option Value} (h : MapFn d w b f) (hk : Kept S w w') (hs : ¬ S b) : MapFn d w' b f := by
  obtain ⟨es, c, h1, h2⟩ := h.ex
  exact ⟨⟨es, c, hk.heap hs h1, h2⟩⟩
theorem MapFn.lt {d : TypeDesc} {w : World} {b : Nat} {f : Value → Option Value} (h : MapFn d w b f) : b < w.heap.size := by
  obtain ⟨es, c, h1, _⟩ := h.ex
  exact ltIn h1
theorem kept_setHeap {w : World} {b : Nat} (o : Obj) : Kept (· = b) w { w with heap := w.heap.setIfInBounds b o } :=
  ⟨rfl, rfl, rfl, by simp, fun i hi hs => by
    show (w.heap.setIfInBounds b o)[i]? = w.heap[i]?
    rw [Array.getElem?_setIfInBounds_ne (fun e => hs e.symm)]⟩
section
variable {P : Program} {mty kt et : TypeId} {kind : TypeDesc}
theorem MapFn.update {w : World} {b : Nat} {f f' : Value → Option Value} (h : MapFn kind w b f) (hm : P.underlying mty = some (.map kt et)) (hd : P.underlying kt = some kind) {k v : Value} (hk : MapKept.IsKey kind k)
    (h1 : f' k = some v) (h2 : ∀ x, MapKept.IsKey kind x → x ≠ k → f' x = f x) :
    ∃ w', (Instr.mapUpdate mty (.map (some b)) k v).run P w = .ok () w' ∧ MapFn kind w' b f' ∧ Kept (· = b) w w' ∧ w'.heap.size = w.heap.size := by
  obtain ⟨es, c, hb, hks, hst, hf⟩ := h.ex
  rcases MapKept.findNow_spec hk es.toList 0 hks with ⟨g1, g2⟩ | ⟨j, e, g1, g2, g3⟩
  · refine ⟨{ w with heap := w.heap.setIfInBounds b (.map (es.push ⟨k, v, c⟩) (c + 1)) }, ?_, ⟨⟨_, _, (MapKept.heap_set hb).1, ?_, MapKept.stamped_push hst g2, ?_⟩⟩, kept_setHeap _, by simp⟩
    · simp [Instr.mapUpdate, run_underlying hm, MapKept.run_getObj_map hb, MapKept.run_checkKey hd hk, MapKept.run_findKey hd g1, MapKept.run_setObj_map _ hb, Result.andThen]
    · intro x hx
      simp only [Array.toList_push, List.mem_append, List.mem_singleton] at hx
      rcases hx with hx | rfl
      · exact hks x hx
      · exact hk
    · intro x hx y
      simp only [Array.toList_push, List.mem_append, List.mem_singleton]
      by_cases hxk : x = k
      · subst hxk
        rw [h1]
        constructor
        · intro e; cases e; exact ⟨_, .inr rfl, rfl, rfl⟩
        · rintro ⟨z, hz | rfl, hzk, rfl⟩
          · exact absurd hzk (g2 z hz)
          · rfl
      · rw [h2 x hx hxk, hf x hx y]
        constructor
        · rintro ⟨z, hz, e⟩; exact ⟨z, .inl hz, e⟩
        · rintro ⟨z, hz | rfl, hzk, e⟩
          · exact ⟨z, hz, hzk, e⟩
          · exact absurd hzk.symm hxk
  · have hj : es[j]? = some e := by simpa using g2
    have hkey : ∀ e', es[j]? = some e' → ({ e' with key := k, val := v } : MapEntry).key = e'.key := fun e' he' => by rw [hj] at he'; cases he'; exact g3.symm
    refine ⟨{ w with heap := w.heap.setIfInBounds b (.map (es.modify j fun e => { e with key := k, val := v }) c) }, ?_, ⟨⟨_, _, (MapKept.heap_set hb).1, MapKept.isKey_modify hks _ _ hkey, MapKept.stamped_modify hst _ _ (fun _ _ => rfl) (fun e' _ he' => hkey e' he'), ?_⟩⟩, kept_setHeap _, by simp⟩
    · simp [Instr.mapUpdate, run_underlying hm, MapKept.run_getObj_map hb, MapKept.run_checkKey hd hk, MapKept.run_findKey hd g1, hj, g3, MapKept.run_keyThatStays hk, MapKept.run_setObj_map _ hb, Result.andThen]
    · have huniq : ∀ (i : Nat) (x : MapEntry), es[i]? = some x → x.key = k → i = j := by
        intro i x hi hxk
        have hnd := hst.2.2
        have hi' : (es.toList.map (·.key))[i]? = some k := by rw [List.getElem?_map]; simp [hi, hxk]
        have hj' : (es.toList.map (·.key))[j]? = some k := by rw [List.getElem?_map]; simp [hj, g3]
        exact (List.getElem?_inj (List.getElem?_eq_some_iff.1 hi').1 hnd).1 (hi'.trans hj'.symm)
      have hmem : ∀ z : MapEntry, z ∈ (es.modify j fun e => { e with key := k, val := v }).toList ↔ (∃ i, i ≠ j ∧ es[i]? = some z) ∨ z = { e with key := k, val := v } := by
        intro z
        rw [List.mem_iff_getElem?]
        constructor
        · rintro ⟨i, hi⟩
          rw [Array.getElem?_toList, Array.getElem?_modify] at hi
          split at hi
          · rename_i hij
            subst hij
            rw [hj] at hi
            right; simpa using hi.symm
          · rename_i hij
            exact .inl ⟨i, fun e => hij e.symm, hi⟩
        · rintro (⟨i, hij, hi⟩ | rfl)
          · exact ⟨i, by rw [Array.getElem?_toList, Array.getElem?_modify, if_neg (fun e => hij e.symm)]; exact hi⟩
          · exact ⟨j, by rw [Array.getElem?_toList, Array.getElem?_modify, if_pos rfl, hj]; rfl⟩
      intro x hx y
      by_cases hxk : x = k
      · subst hxk
        rw [h1]
        constructor
        · intro e'; cases e'; exact ⟨_, (hmem _).2 (.inr rfl), rfl, rfl⟩
        · rintro ⟨z, hz, hzk, rfl⟩
          rcases (hmem z).1 hz with ⟨i, hij, hi⟩ | rfl
          · exact absurd (huniq i z hi hzk) hij
          · rfl
      · rw [h2 x hx hxk, hf x hx y]
        constructor
        · rintro ⟨z, hz, hzk, e'⟩
          obtain ⟨i, hi⟩ := List.mem_iff_getElem?.1 hz
          have hi : es[i]? = some z := by simpa using hi
          refine ⟨z, (hmem z).2 (.inl ⟨i, fun hij => hxk ?_, hi⟩), hzk, e'⟩
          rw [hij, hj] at hi; cases hi
          rw [← hzk, g3]
        · rintro ⟨z, hz, hzk, e'⟩
          rcases (hmem z).1 hz with ⟨i, hij, hi⟩ | rfl
          · exact ⟨z, List.mem_iff_getElem?.2 ⟨i, by simpa using hi⟩, hzk, e'⟩
          · exact absurd hzk.symm hxk
theorem MapFn.hit {w : World} {b : Nat} {f : Value → Option Value} (h : MapFn kind w b f) (hm : P.underlying mty = some (.map kt et)) (hd : P.underlying kt = some kind) {k v : Value} (hk : MapKept.IsKey kind k) (hf : f k = some v) (ok : Bool) :
    (Instr.lookup mty (.map (some b)) k ok).run P w = .ok (if ok then .tuple #[v, .bool true] else v) w := by
  obtain ⟨es, c, hb, hks, hst, hff⟩ := h.ex
  rcases MapKept.findNow_spec hk es.toList 0 hks with ⟨g1, g2⟩ | ⟨j, e, g1, g2, g3⟩
  · obtain ⟨x, hx, hxk, _⟩ := (hff k hk v).1 hf
    exact absurd hxk (g2 x hx)
  · have := (hff k hk e.val).2 ⟨e, List.mem_iff_getElem?.2 ⟨j, g2⟩, g3, rfl⟩
    rw [hf] at this
    cases this
    exact run_look_hit hm hd hb hk g1 ok
theorem MapFn.miss {w : World} {b : Nat} {f : Value → Option Value} (h : MapFn kind w b f) (hm : P.underlying mty = some (.map kt et)) (hd : P.underlying kt = some kind) {k z : Value} (hk : MapKept.IsKey kind k) (hf : f k = none) (hz : (zeroValue et).run P w = .ok z w) (ok : Bool) :
    (Instr.lookup mty (.map (some b)) k ok).run P w = .ok (if ok then .tuple #[z, .bool false] else z) w := by
  obtain ⟨es, c, hb, hks, hst, hff⟩ := h.ex
  rcases MapKept.findNow_spec hk es.toList 0 hks with ⟨g1, g2⟩ | ⟨j, e, g1, g2, g3⟩
  · exact run_look_miss hm hd hb hk g1 hz ok
  · have := (hff k hk e.val).2 ⟨e, List.mem_iff_getElem?.2 ⟨j, g2⟩, g3, rfl⟩
    rw [hf] at this; cases this
variable {ops : Array Oper} {o : Oper} {a : Act} {K : Act → World → Prop} {Q : Exit → Act → World → Prop} {E : Prop}
theorem upon_insert {w : World} {b : Nat} {f : Value → Option Value} (hm : P.underlying mty = some (.map kt et)) (hd : P.underlying kt = some kind) (f' : Value → Option Value) (hM : MapFn kind w b f) {kv xv : Value} (hk : MapKept.IsKey kind kv) (h1 : f' kv = some xv) (h2 : ∀ y, MapKept.IsKey kind y → y ≠ kv → f' y = f y)
    (h : ∀ w', MapFn kind w' b f' → Kept (· = b) w w' → w'.heap.size = w.heap.size → K (a.put o.dst undef) w') :
    Oper.upon P o a K Q ((Sem.run P (Instr.mapUpdate mty (.map (some b)) kv xv) w).andThen fun _ w' => .ok .skip w') := by
  obtain ⟨w', hr, hM', hk', hs'⟩ := hM.update hm hd hk h1 h2
  rw [hr]
  exact h w' hM' hk' hs'
end
end Go.Proofs.YtplbdlgmjehckadGreatDoor

