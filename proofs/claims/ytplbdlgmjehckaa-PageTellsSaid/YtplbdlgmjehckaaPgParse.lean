/-
  The reader of pages: Parse, and what its deferred call catches.
-/
import Derived.Test.YtplbdlgmjehckaaPgItems
import Derived.Recover
import Derived.WideLaws
namespace Go.Proofs.Ytplbdlgmjehckaa
open Go.RowKit
set_option linter.unusedVariables false
set_option linter.unusedSimpArgs false

set_option maxHeartbeats 400000 in
theorem catch_panicking (lb fb : Nat) (f : Flt) (w : World) (v0 v1 v2 : Value) (hl : w.heap[lb]? = some (.cells #[v0] 22 (0,0))) (hf : w.heap[fb]? = some (.cells #[v1, v2] 25 (0,0))) (hne : ¬ lb = fb) :
    CallsD Try.prog 18 #[.pointer (some ⟨lb, 0, none⟩), .pointer (some ⟨fb, 0, none⟩)] (.panicking ({ v := oops f, recovered := false } :: [])) w fun e u' w' =>
      e = .returned (.tuple #[]) ∧ u' = .panicking ({ v := oops f, recovered := true } :: []) ∧ Kept (fun k => k = lb ∨ k = fb) w w' ∧
        w'.heap[lb]? = some (.cells #[.slice none 0 0] 22 (0,0)) ∧ w'.heap[fb]? = some (.cells #[.int .i64 f.err, .int .i64 f.pos] 25 (0,0)) := by
  refine callsD_of_wpS Try.func18 rfl fun c₀ cs hu => ?_
  apply wpS_seq
  apply wpS_region
  unfold oops at hu ⊢
  simp [wpOpsS, go_sem, recoverD, hu, Try.ntmps18, Exit.thenS]
  refine wpS_of_wp ?_
  have hg : eqGuard .eql 20 (.tmp 5) (.const .nilIface) (.iface 46 (.agg #[.int .i64 (f.err : Int), .int .i64 (f.pos : Int)])) .nilIface = pure () := rfl
  have hta : ∀ w, (Instr.typeAssert (.iface 46 (.agg #[.int .i64 (f.err : Int), .int .i64 (f.pos : Int)])) 20 46 true).run Try.prog w = .ok (.tuple #[.agg #[.int .i64 (f.err : Int), .int .i64 (f.pos : Int)], .bool true]) w := fun w => by kernel_rfl
  simp only [Array.replicate_succ, Array.replicate_zero, List.push_toArray, List.append_toArray, List.nil_append, List.cons_append, List.setIfInBounds_toArray, List.set_cons_succ, List.set_cons_zero]
  have l0 := cellIn hl 0 rfl
  have l0f := freeIn hl 0
  have g0 := cellIn hf 0 rfl
  have g1 := cellIn hf 1 rfl
  have g0f := freeIn hf 0
  have g1f := freeIn hf 1
  have hll := ltIn hl
  have hfl := ltIn hf
  go_wp2
  go_region
  go_wp2
  simp [bodyPostS, results, Try.results18]
  refine ⟨?_, ?_, ?_⟩
  · exact (((((Kept.refl (fun k => k = lb ∨ k = fb) w).setCell (p := ⟨lb, 0, none⟩) (.inl (.inl rfl)) _).setCell (p := ⟨fb, 0, none⟩) (.inl (.inr rfl)) _).setCell (p := ⟨fb, 1, none⟩) (.inl (.inr rfl)) _).alloc _).drew
  · have h1 := setIn hl 0 (.slice none 0 0)
    exact oldIn (otherIn (otherIn h1 _ _ hne) _ _ hne) _
  · have h1 := otherIn hf ⟨lb, 0, none⟩ (.slice none 0 0) (fun h => hne h.symm)
    exact oldIn (setIn (setIn h1 0 (.int .i64 f.err)) 1 (.int .i64 f.pos)) _

set_option maxHeartbeats 400000 in
theorem catch_idle (p q : Addr) (w : World) :
    CallsD Try.prog 18 #[.pointer (some p), .pointer (some q)] .returning w fun e u' w' => e = .returned (.tuple #[]) ∧ u' = .returning ∧ w' = w := by
  refine callsD_of_wpS Try.func18 rfl fun c₀ cs hu => ?_
  apply wpS_seq
  apply wpS_region
  simp [wpOpsS, go_sem, recoverD, hu, Try.ntmps18, Exit.thenS]
  refine wpS_of_wp ?_
  have hg : eqGuard .eql 20 (.tmp 5) (.const .nilIface) .nilIface .nilIface = pure () := rfl
  simp only [Array.replicate_succ, Array.replicate_zero, List.push_toArray, List.append_toArray, List.nil_append, List.cons_append, List.setIfInBounds_toArray, List.set_cons_succ, List.set_cons_zero]
  go_wp2
  cases c₀
  simp_all [bodyPostS, results, Try.results18]

theorem nodesAt_of_own {w : World} {base b : Nat} {v : Value} {ns : List PNode} (h : NodesOwn w base b v ns) : NodesAt w v ns := by
  obtain ⟨avs, h1, h2, h3⟩ := h
  exact ⟨avs, h1, rowsAt_of_owns zip_rows (by simp [h1]) h2, fun i n av hn ha => (h3 i n av hn ha).1⟩
def ParseEnds (w : World) (r : Ans (List PNode)) (e : Ending) (w' : World) : Prop :=
  match r with
  | .bad f => e = .returned (.tuple #[.slice none 0 0, .agg #[.int .i64 (f.err : Int), .int .i64 (f.pos : Int)]]) ∧ Below w.heap.size w w'
  | .ok ns => ∃ v, e = .returned (.tuple #[v, .agg #[.int .i64 0, .int .i64 0]]) ∧ Below w.heap.size w w' ∧ NodesAt w' v ns

theorem attrs_past {w w' : World} {l f : Nat} {t1 t2 : TypeId} {v : Value} {al : List PAttr} (hl : w.heap[l]? = some (.cells #[.slice none 0 0] t1 (0, 0))) (hf : w.heap[f]? = some (.cells #[.int .i64 0, .int .i64 0] t2 (0, 0)))
    (hk : Kept (fun k => k = l ∨ k = f) w w') (h : AttrsAt w v al) : AttrsAt w' v al := by
  obtain ⟨a, cap, rfl, h1, h2, h3⟩ := h
  refine ⟨a, cap, rfl, h1, h2, fun hne => ?_⟩
  obtain ⟨b, off, rfl, h4⟩ := h3 hne
  have hb : ¬ (b = l ∨ b = f) := by
    cases al with
    | nil => exact absurd rfl hne
    | cons a al =>
      have h5 := h4 0 (attrCells a) rfl 0 (.string (str a.name)) rfl
      rintro (rfl | rfl)
      · rw [cell_of_row w b _ _ _ _ hl] at h5
        cases off with
        | zero => simp at h5
        | succ n => simp at h5
      · rw [cell_of_row w b _ _ _ _ hf] at h5
        match off, h5 with
        | 0, h5 => simp at h5
        | 1, h5 => simp at h5
        | n + 2, h5 => simp at h5
  exact ⟨b, off, rfl, fun i r hr j c hc => hk.cell hb (h4 i r hr j c hc)⟩

theorem nodes_past {w w' : World} {base b l f : Nat} {t1 t2 : TypeId} {v : Value} {ns : List PNode} (hl : w.heap[l]? = some (.cells #[.slice none 0 0] t1 (0, 0))) (hf : w.heap[f]? = some (.cells #[.int .i64 0, .int .i64 0] t2 (0, 0)))
    (hk : Kept (fun k => k = l ∨ k = f) w w') (h : NodesOwn w base b v ns) (hv : ∀ k, v.ownBlock = some k → ¬ (k = l ∨ k = f)) : NodesAt w' v ns := by
  obtain ⟨avs, h1, h2, h3⟩ := h
  exact ⟨avs, h1, (rowsAt_of_owns zip_rows (by simp [h1]) h2).kept hk hv, fun i n av hn ha => attrs_past hl hf hk (h3 i n av hn ha).1⟩

def startW (w : World) (s : B) : World :=
  ((w.alloc (.cells #[.slice none 0 0] 22 (0,0))).alloc (.cells #[.int .i64 0, .int .i64 0] 25 (0,0))).alloc (.cells #[.string (str s), .int .i64 0, .slice none 0 0] 49 (0,0))

theorem start_size (w : World) (s : B) : (startW w s).heap.size = w.heap.size + 3 := by simp [startW]
theorem start_kept (w : World) (s : B) : Kept (fun _ => False) w (startW w s) := (((Kept.refl (fun _ => False) w).alloc _).alloc _).alloc _
theorem start_l (w : World) (s : B) : (startW w s).heap[w.heap.size]? = some (.cells #[.slice none 0 0] 22 (0,0)) := oldIn (oldIn (newIn w _) _) _
theorem start_f (w : World) (s : B) : (startW w s).heap[w.heap.size + 1]? = some (.cells #[.int .i64 0, .int .i64 0] 25 (0,0)) := by
  have := newIn (w.alloc (.cells #[.slice none 0 0] 22 (0,0))) (.cells #[.int .i64 0, .int .i64 0] 25 (0,0))
  simp only [show (w.alloc (.cells #[.slice none 0 0] 22 (0,0))).heap.size = w.heap.size + 1 from by simp] at this
  exact oldIn this _
theorem start_rdr (w : World) (s : B) (m : Int) (hm : w.cell? ⟨0, 0, none⟩ = some (.int .i64 m)) (hs : s.length ≤ 6000) : Rdr (startW w s) (w.heap.size + 3) (w.heap.size + 2) s 0 (.slice none 0 0) [] := by
  have h0 : 0 < w.heap.size := World.block_lt_of_cell? w _ hm
  refine ⟨⟨?_, Nat.zero_le _, hs⟩, ⟨[], rfl, ⟨rfl, .inl ⟨rfl, rfl⟩⟩, fun i n av hn => by simp at hn⟩, by omega, by rw [start_size]; exact Nat.le_refl _, by simp, ⟨m, (start_kept w s).cell (fun h => h) hm⟩, by omega⟩
  have := newIn ((w.alloc (.cells #[.slice none 0 0] 22 (0,0))).alloc (.cells #[.int .i64 0, .int .i64 0] 25 (0,0))) (.cells #[.string (str s), .int .i64 0, .slice none 0 0] 49 (0,0))
  simp only [show ((w.alloc (.cells #[.slice none 0 0] 22 (0,0))).alloc (.cells #[.int .i64 0, .int .i64 0] 25 (0,0))).heap.size = w.heap.size + 2 from by simp] at this
  exact this

set_option maxHeartbeats 1600000 in
theorem parse_any (s : B) (w : World) (m : Int) (hm : w.cell? ⟨0, 0, none⟩ = some (.int .i64 m)) (hs : s.length ≤ 9223372036854775807) :
    Calls Try.prog 8 #[.string (str s)] w (ParseEnds w (pParse s)) := by
  obtain ⟨r, HR⟩ : ∃ r, Hid (pParse s = r) := ⟨_, rfl⟩
  rw [HR.out]
  have HM := Lib.hid hm
  clear hm
  have hmf : ∀ (fn : Fn) (first cap : Array Value) (w : World), (Instr.makeFunc fn first cap).run Try.prog w = .ok (.func fn first cap) w := fun _ _ _ _ => rfl
  by_cases hl : 6000 < s.length
  · obtain rfl : r = .bad ⟨4, 0⟩ := by rw [← HR.out]; unfold pParse; rw [if_pos hl]
    have hlI : 6000 < (s.length : Int) := by omega
    have hsz : ((str s).size : Int) = s.length := by rw [str_size]
    go_enter_defers Try.func8, Try.ntmps8
    go_wp2
    clear hmf HR HM
    simp [bodyPostD, Leaves, settle, results, Try.results8, go_sem]
    exact ⟨rfl, (((Kept.refl (fun _ => False) w).alloc _).alloc _).below⟩
  · have hE := HR.out
    unfold pParse at hE
    rw [if_neg hl] at hE
    have HE := Lib.hid hE
    clear hE
    have hsz : ((str s).size : Int) = s.length := by rw [str_size]
    go_enter_defers Try.func8, Try.ntmps8
    go_wp2_with fail
    refine (items_any s (w.heap.size + 3) (w.heap.size + 2) (s.length + 1) (-1) 1 [] 0 (.slice none 0 0) _ (by omega) (by omega) ?_).mono ?_
    · exact start_rdr w s m HM.out (by omega)
    · rw [List.drop_zero]
      have hk0 := start_kept w s
      have hl0 := start_l w s
      have hf0 := start_f w s
      change ∀ (e : Ending) (w' : World), ItemsEnds (startW w s) _ _ _ _ _ e w' → _
      have HK0 := Lib.hid hk0
      have HL0 := Lib.hid hl0
      have HF0 := Lib.hid hf0
      have hsz0 := start_size w s
      clear hk0 hl0 hf0
      have hr : ((pItems (s.length + 1) (-1) 1 [] s 0).then fun x => if x.2.1 = [] then Ans.ok x.1 else .bad ⟨2, x.2.2⟩) = r := HE.out
      generalize startW w s = w0 at *
      cases hp : pItems (s.length + 1) (-1) 1 [] s 0 with
      | bad f =>
        rw [hp] at hr
        obtain rfl : r = .bad f := hr.symm
        rintro e w' ⟨rfl, hk⟩
        clear hmf HR HE HM hp hr
        simp only [bodyPostD]
        refine leaves_cons (f := 18) (args := #[.pointer (some ⟨w.heap.size, 0, none⟩), .pointer (some ⟨w.heap.size + 1, 0, none⟩)]) (by simp) (by simp [go_sem]) ?_
        refine (catch_panicking w.heap.size (w.heap.size + 1) f w' _ _ _ (hk.heap (fun hs => by rcases hs with hs | hs; exact absurd hs (by omega); cases hs) HL0.out) (hk.heap (fun hs => by rcases hs with hs | hs; exact absurd hs (by omega); cases hs) HF0.out) (by omega)).mono ?_
        rintro e u' w2 ⟨rfl, rfl, hk2, hl2, hf2⟩
        have l0 := cellIn hl2 0 rfl
        have g0 := cellIn hf2 0 rfl
        have g1 := cellIn hf2 1 rfl
        simp [Leaves, settle, results, Try.results8, go_sem, l0, g0, g1]
        exact ⟨rfl, ((HK0.out.trans' hk (fun i hi hs => by rcases hs with hs | hs; exact absurd hs (by omega); cases hs)).trans' hk2 (fun i hi hs => by rcases hs with hs | hs <;> omega)).below⟩
      | ok x =>
        obtain ⟨ns, l', at'⟩ := x
        rw [hp] at hr
        simp only [Ans.ok_then] at hr
        rintro e w' ⟨v', rfl, hk, hrd0, rfl, hown⟩
        have hrd : Rdr w' (w.heap.size + 3) (w.heap.size + 1 + 1) s at' v' ns := hrd0
        clear hrd0 HE hp
        obtain ⟨a9, n9, cap9, rfl⟩ : ∃ a n cap, v' = .slice a n cap := by
          obtain ⟨_, _, ⟨a, cap, e, _⟩, _⟩ := nodesAt_of_own hrd.nodes
          exact ⟨a, _, cap, e⟩
        have c0 := hrd.c0
        have c1 := hrd.rd.c1
        have c2 := hrd.rd.c2
        have hl := hk.heap (fun hs => by rcases hs with hs | hs; exact absurd hs (by omega); cases hs) HL0.out
        have hf := hk.heap (fun hs => by rcases hs with hs | hs; exact absurd hs (by omega); cases hs) HF0.out
        have l0 : w'.cell? ⟨w.heap.size, 0, none⟩ = some (.slice none 0 0) := cellIn hl 0 rfl
        have l0f := freeIn hl 0
        have g0 : w'.cell? ⟨w.heap.size + 1, 0, none⟩ = some (.int .i64 0) := cellIn hf 0 rfl
        have g1 : w'.cell? ⟨w.heap.size + 1, 1, none⟩ = some (.int .i64 0) := cellIn hf 1 rfl
        have g0f := freeIn hf 0
        have g1f := freeIn hf 1
        have hlt := hrd.rd.2.1
        have HF := Lib.hid hf
        have HL := Lib.hid hl
        have HRD := Lib.hid hrd
        clear hl hf hrd
        by_cases hend : at' = s.length
        · obtain rfl : r = .ok ns := by rw [← hr, if_pos (by rw [hend]; simp)]
          have hd : decide ((at' : Int) < (s.length : Int)) = false := by simp; omega
          subst hend
          clear hr
          go_wp2_with fail
          go_region
          go_wp2_with fail
          clear hmf HR HM
          simp only [bodyPostD]
          refine leaves_cons (f := 18) (args := #[.pointer (some ⟨w.heap.size, 0, none⟩), .pointer (some ⟨w.heap.size + 1, 0, none⟩)]) (by simp) (by simp [go_sem]) ?_
          refine (catch_idle _ _ _).mono ?_
          rintro e u' w2 ⟨rfl, rfl, hw2⟩
          have hkF : Kept (fun k => k = w.heap.size ∨ k = w.heap.size + 1) w' w2 := by
            rw [hw2]
            exact ((((Kept.refl _ w').setCell (p := ⟨w.heap.size, 0, none⟩) (.inl (.inl rfl)) _).setCell (p := ⟨w.heap.size + 1, 0, none⟩) (.inl (.inr rfl)) _).setCell (p := ⟨w.heap.size + 1, 1, none⟩) (.inl (.inr rfl)) _).drew
          have l1 : w2.cell? ⟨w.heap.size, 0, none⟩ = some (.slice a9 n9 cap9) := by
            rw [hw2]
            exact cellIn (otherIn (otherIn (setIn HL.out 0 _) ⟨w.heap.size + 1, 0, none⟩ _ (by show w.heap.size ≠ w.heap.size + 1; omega)) ⟨w.heap.size + 1, 1, none⟩ _ (by show w.heap.size ≠ w.heap.size + 1; omega)) 0 rfl
          have hf1 : w2.heap[w.heap.size + 1]? = some (.cells #[.int .i64 0, .int .i64 0] 25 (0, 0)) := by
            rw [hw2]
            exact setIn (setIn (otherIn HF.out ⟨w.heap.size, 0, none⟩ (.slice a9 n9 cap9) (by show w.heap.size + 1 ≠ w.heap.size; omega)) 0 (.int .i64 0)) 1 (.int .i64 0)
          have g2 : w2.cell? ⟨w.heap.size + 1, 0, none⟩ = some (.int .i64 0) := cellIn hf1 0 rfl
          have g3 : w2.cell? ⟨w.heap.size + 1, 1, none⟩ = some (.int .i64 0) := cellIn hf1 1 rfl
          clear hw2 l0 g0 g1 hf1 c0 c1 c2
          simp [Leaves, settle, results, Try.results8, go_sem, l1, g2, g3]
          refine ⟨_, rfl, ((HK0.out.trans' hk (fun i hi hs => by rcases hs with hs | hs; exact absurd hs (by omega); cases hs)).trans' hkF (fun i hi hs => by rcases hs with hs | hs <;> omega)).below, nodes_past HL.out HF.out hkF HRD.out.nodes ?_⟩
          intro k hk' hs
          rcases hown k hk' with h | h
          · cases h
          · omega
        · obtain rfl : r = .bad ⟨2, at'⟩ := by
            rw [← hr, if_neg]
            intro he
            have := congrArg List.length he
            simp at this
            omega
          have hd : (at' : Int) < (s.length : Int) := by omega
          clear hr
          go_wp2_with fail
          refine (fail_any 2 _ _ s at' _ HRD.out.rd).mono ?_
          rintro e w3 ⟨rfl, hq⟩
          have hl3 := (hq.kept (fun _ => False)).heap id HL.out
          have hf3 := (hq.kept (fun _ => False)).heap id HF.out
          have hk3 := hk.trans (hq.kept _)
          clear hmf HR HM hq
          simp only [bodyPostD]
          refine leaves_cons (f := 18) (args := #[.pointer (some ⟨w.heap.size, 0, none⟩), .pointer (some ⟨w.heap.size + 1, 0, none⟩)]) (by simp) (by simp [go_sem]) ?_
          refine (catch_panicking w.heap.size (w.heap.size + 1) ⟨2, at'⟩ w3 _ _ _ hl3 hf3 (by omega)).mono ?_
          rintro e u' w2 ⟨rfl, rfl, hk2, hl2, hf2⟩
          have l0 := cellIn hl2 0 rfl
          have g0 := cellIn hf2 0 rfl
          have g1 := cellIn hf2 1 rfl
          simp [Leaves, settle, results, Try.results8, go_sem, l0, g0, g1]
          exact ⟨rfl, ((HK0.out.trans' hk3 (fun i hi hs => by rcases hs with hs | hs; exact absurd hs (by omega); cases hs)).trans' hk2 (fun i hi hs => by rcases hs with hs | hs <;> omega)).below⟩

end Go.Proofs.Ytplbdlgmjehckaa
