/-
  inklaw3.MatchMore.
-/
import Derived.Test.YtplbdlgmjehckaaDoorMtLawJoins
import Derived.Test.YtplbdlgmjehckaaDoorMtLawRule
import Derived.Deep.RegionHeld3
namespace Go.Proofs.YtplbdlgmjehckaaDoor
open Go.RowKit
set_option linter.unusedVariables false
set_option linter.unusedSimpArgs false

section
variable {P : Program}
/-- at a step of a region that draws its order: by the run's equation -/
theorem step_append_eq {ops : Array Oper} {o : Oper} {a : Act} {w : World} {K : Act → World → Prop} {Q : Exit → Act → World → Prop} {E : Prop} (hgd : o.guard = none) (s x : Operand) (t : TypeId)
    (ho : o.op = .call { callee := .builtin .append, args := #[s, x], argTypes := #[t, t] }) (sv xv v : Value) (hs : a.eval s = sv) (hx : a.eval x = xv) (w' : World)
    (hr : (Builtin.append_ #[t, t] o.type #[sv, xv]).run P w = .ok v w') (h : K (a.put o.dst v) w') : if Region.wanted o (yielded ops a.tmps) = true then Oper.wp P o a w K Q else E := by
  have hw : Region.wanted o (yielded ops a.tmps) = true := by simp [Region.wanted, hgd]
  rw [if_pos hw]
  unfold Oper.wp execOp
  simp only [ho, resolve, invoke, builtin, Sem.run_bind, Sem.run_pure, Result.andThen_ok, List.map_toArray, List.map_cons, List.map_nil, hs, hx, hr]
  exact h
end
theorem owns_empty {w : World} {base e size G : Nat} (h : w.heap[G]? = some (.cells #[] e (0, 0))) (hb : base ≤ G) : w.ownsRow base e size (.slice (some ⟨G, 0, none⟩) 0 0) 0 [] :=
  ⟨by simp, .inr ⟨G, 0, #[], rfl, hb, h, Nat.le_refl _, by unfold maxLen; omega, by simp, by simp⟩⟩
theorem zipWith_set2 {α β γ : Type} (f : α → β → γ) : ∀ (xs : List α) (vs : List β) (k : Nat) (x : α) (u : β), List.zipWith f (xs.set k x) (vs.set k u) = (List.zipWith f xs vs).set k (f x u)
  | [], vs, k, x, u => by simp
  | y :: xs, [], k, x, u => by simp
  | y :: xs, v :: vs, 0, x, u => by simp
  | y :: xs, v :: vs, k + 1, x, u => by simp [zipWith_set2 f xs vs k x u]
/-- a part's tests are written anew -/
theorem more_put {w0 w' : World} {base base2 g c n : Nat} {s : PSel} {vs : List Value} {p : PPart} {t : PTest} {a7 : Option Addr} {c7 : Nat}
    (hown : w'.ownsRow base 45 2 (.slice (some ⟨g, 0, none⟩) (List.length s) c) (List.length s) (List.zipWith partCells s vs).flatten) (hv : vs.length = s.length)
    (hts : ∀ (i : Nat) (x : PPart) (u : Value), s[i]? = some x → vs[i]? = some u → TestsAt w0 u x.tests) (hp : s[n]? = some p)
    (hnew : w'.ownsRow base2 42 3 (.slice a7 (p.tests.length + 1) c7) (p.tests.length + 1) (p.tests.map testCells ++ [testCells t]).flatten) (hg : g < base2)
    (hk : Kept (fun _ => False) w0 (w'.setCell ⟨g, n * 2 + 1, none⟩ (.slice a7 (p.tests.length + 1) c7))) :
    PartsAt (w'.setCell ⟨g, n * 2 + 1, none⟩ (.slice a7 (p.tests.length + 1) c7)) (.slice (some ⟨g, 0, none⟩) (List.length s) c) (s.take n ++ { p with tests := p.tests ++ [t] } :: s.drop (n + 1)) := by
  have hnl := (List.getElem?_eq_some_iff.1 hp).1
  have hvn : vs[n]? = some (vs[n]'(by omega)) := List.getElem?_eq_getElem _
  have hset : s.take n ++ { p with tests := p.tests ++ [t] } :: s.drop (n + 1) = s.set n ⟨p.join, p.tests ++ [t]⟩ := by
    rw [List.set_eq_take_append_cons_drop, if_pos hnl]
  rw [hset]
  have ho : (w'.setCell ⟨g, n * 2 + 1, none⟩ (.slice a7 (p.tests.length + 1) c7)).ownsRow base 45 2 (.slice (some ⟨g, 0, none⟩) (List.length s) c) (List.length s) (List.zipWith partCells (s.set n ⟨p.join, p.tests ++ [t]⟩) (vs.set n (.slice a7 (p.tests.length + 1) c7))).flatten := by
    rw [zipWith_set2]
    exact owns_put (a := none) (k := n) (j := 1) (r := partCells p (vs[n]'(by omega))) hown (zipRows partCells_len) (by simp [hv]) (by simp [List.getElem?_zipWith, hp, hvn]) (by omega) _
  refine parts_of_owns ho (by simp [hv]) (by simp) (fun i x u hx hu => ?_)
  by_cases hin : n = i
  · subst hin
    rw [List.getElem?_set_self (by omega)] at hx hu
    cases hx; cases hu
    have hrows : RowsAt w' 3 (.slice a7 (p.tests.length + 1) c7) ((p.tests ++ [t]).map testCells) := by
      refine rowsAt_of_owns (n := p.tests.length + 1) (fun r hr => ?_) (by simp) (by simpa using hnew)
      obtain ⟨y, _, rfl⟩ := List.mem_map.1 hr
      rfl
    refine RowsAt.kept hrows ((Kept.refl (· = g) w').setCell (p := ⟨g, n * 2 + 1, none⟩) (.inl rfl) _) (fun q hq hs => ?_)
    have := (hnew.lt q hq).1
    omega
  · rw [List.getElem?_set_ne hin] at hx hu
    exact tests_firm.kept (hts i x u hx hu) hk

theorem tests_len3 (ts : List PTest) : ∀ r ∈ ts.map testCells, r.length = 3 := by
  intro r hr
  obtain ⟨y, _, rfl⟩ := List.mem_map.1 hr
  rfl
theorem tests_one (ts : List PTest) : ∀ u ∈ (ts.map testCells).flatten, u.oneCell' = true := by
  intro u hu
  obtain ⟨r, hr, hu⟩ := List.mem_flatten.1 hu
  obtain ⟨y, _, rfl⟩ := List.mem_map.1 hr
  simp only [testCells, List.mem_cons, List.not_mem_nil, or_false] at hu
  rcases hu with rfl | rfl | rfl <;> rfl

theorem le_step {w : World} {b1 b2 : Nat} {x y : PWt} (h1 : IntsAt w b1 x) (h2 : IntsAt w b2 y) (hl : x.le y) {k : Nat} (hk : k < 3) :
    ∃ u v : Nat, w.cell? ⟨b1, k, none⟩ = some (.int .i64 (u : Int)) ∧ w.cell? ⟨b2, k, none⟩ = some (.int .i64 (v : Int)) ∧ u ≤ v := by
  obtain ⟨p0, p1, p2⟩ := h1
  obtain ⟨q0, q1, q2⟩ := h2
  obtain ⟨l0, l1, l2⟩ := hl
  rcases (by omega : k = 0 ∨ k = 1 ∨ k = 2) with rfl | rfl | rfl
  · exact ⟨_, _, p0, q0, l0⟩
  · exact ⟨_, _, p1, q1, l1⟩
  · exact ⟨_, _, p2, q2, l2⟩
theorem more_few {s : PSel} {n : Nat} {p : PPart} (hp : s[n]? = some p) (t : PTest) : nTests (s.take n ++ { p with tests := p.tests ++ [t] } :: s.drop (n + 1)) = nTests s + 1 := by
  conv => rhs; rw [set_split hp]
  unfold nTests
  simp only [List.map_append, List.map_cons, List.sum_append, List.sum_cons, List.length_append, List.length_singleton]
  omega
/-- at a drawn step: tests are appended to an empty row of one's own -/
theorem arm_copy {ops : Array Oper} {o : Oper} {a : Act} {K : Act → World → Prop} {Q : Exit → Act → World → Prop} {E : Prop} {w5 wc : World} {i0 : TypeInfo} (hi0 : Tryd.prog.info? 42 = some i0) (hz0 : i0.zero = some (.agg #[.int .i64 0, .string ⟨#[]⟩, .string ⟨#[]⟩])) (hz1 : i0.size = 3) (hz2 : i0.bytes = 40)
    (hgd : o.guard = none) (s x : Operand) (ho : o.op = .call { callee := .builtin .append, args := #[s, x], argTypes := #[43, 43] })
    (G : Nat) (ta : Option Addr) (tc n : Nat) (ts : List PTest) (hs : a.eval s = .slice (some ⟨G, 0, none⟩) 0 0) (hx : a.eval x = .slice ta n tc) (hG : wc.heap[G]? = some (.cells #[] 42 (0, 0))) (hGw : w5.heap.size ≤ G) (hK : Kept (fun _ => False) w5 wc)
    (ht : TestsAt w5 (.slice ta n tc) ts) (hn : n = ts.length) (hn2 : n ≤ 1048576)
    (h : ∀ a6 c6 w6, w6.ownsRow w5.heap.size 42 3 (.slice a6 n c6) n (ts.map testCells).flatten → Kept (fun _ => False) w5 w6 → (∀ (q : Nat) (ob : Obj), q ≠ G → wc.heap[q]? = some ob → w6.heap[q]? = some ob) → K (a.put o.dst (.slice a6 n c6)) w6) :
    if Region.wanted o (yielded ops a.tmps) = true then Oper.wp Tryd.prog o a wc K Q else E := by
  obtain ⟨a6, c6, w6, hr6, ho6, k6, _⟩ := append_any (P := Tryd.prog) wc 43 o.type w5.heap.size 42 i0 _ 3 40 Tryd.underlying43 hi0 hz0 hz1 hz2 rfl (by omega) _ 0 0 [] (owns_empty hG hGw) ta n tc _ (RowsAt.below ht hK.below) (tests_len3 ts) (tests_one ts) (by unfold maxLen; omega) (by omega) hK.size
  rw [Nat.zero_add] at hr6 ho6
  refine step_append_eq hgd s x _ ho _ _ _ hs hx w6 hr6 (h a6 c6 w6 (by simpa using ho6) (hK.trans' k6 (fun i hi hx => ?_)) (fun q ob hq hob => k6.heap (fun hx => ?_) hob))
  · simp only [Value.ownBlock, Option.some.injEq] at hx; omega
  · simp only [Value.ownBlock, Option.some.injEq] at hx; omega
/-- .. and one more -/
theorem arm_more {ops : Array Oper} {o : Oper} {a : Act} {K : Act → World → Prop} {Q : Exit → Act → World → Prop} {E : Prop} {w5 wc : World} {i0 : TypeInfo} (hi0 : Tryd.prog.info? 42 = some i0) (hz0 : i0.zero = some (.agg #[.int .i64 0, .string ⟨#[]⟩, .string ⟨#[]⟩])) (hz1 : i0.size = 3) (hz2 : i0.bytes = 40)
    (hgd : o.guard = none) (s x : Operand) (ho : o.op = .call { callee := .builtin .append, args := #[s, x], argTypes := #[43, 43] })
    (a6 : Option Addr) (c6 n Bk : Nat) (rows : List (List Value)) (t : PTest) (hs : a.eval s = .slice a6 n c6) (hx : a.eval x = .slice (some ⟨Bk, 0, none⟩) 1 1) (ho6 : wc.ownsRow w5.heap.size 42 3 (.slice a6 n c6) n rows.flatten)
    (hB : wc.heap[Bk]? = some (.cells #[.int .i64 t.kind, .string (str t.name), .string (str t.val)] 42 (0, 0))) (hK : Kept (fun _ => False) w5 wc) (hn2 : n ≤ 1048576)
    (h : ∀ a7 c7 w7, w7.ownsRow w5.heap.size 42 3 (.slice a7 (n + 1) c7) (n + 1) (rows ++ [testCells t]).flatten → Kept (fun _ => False) w5 w7 → K (a.put o.dst (.slice a7 (n + 1) c7)) w7) :
    if Region.wanted o (yielded ops a.tmps) = true then Oper.wp Tryd.prog o a wc K Q else E := by
  obtain ⟨a7, c7, w7, hr7, ho7, k7, _⟩ := append_any (P := Tryd.prog) wc 43 o.type w5.heap.size 42 i0 _ 3 40 Tryd.underlying43 hi0 hz0 hz1 hz2 rfl (by omega) a6 n c6 _ ho6 (some ⟨Bk, 0, none⟩) 1 1 [testCells t] (rows_new hB rfl (by simp [testCells]) rfl (by simp [maxLen])) (by simp [testCells]) (by simp [testCells, Value.oneCell']) (by unfold maxLen; omega) (by omega) hK.size
  refine step_append_eq hgd s x _ ho _ _ _ hs hx w7 hr7 (h a7 c7 w7 (by simpa using ho7) (hK.trans' k7 (fun i hi hx => ?_)))
  have := (ho6.lt i hx).1; omega

set_option maxRecDepth 100000 in
set_option maxHeartbeats 3200000 in
theorem matchMore_any (ns : List PNode) (hns : MtCtx ns) (s : PSel) (t : PTest) (m : Int) (w : World) (v sv : Value) (k i : Int) (hv : NodesAt w v ns) (hp : PartsAt w sv s) (hs : s.length ≤ 1048576) (hnt : nTests s < 1048576) (htl : ∀ p ∈ s, p.tests.length ≤ 1048576)
    (hk : -9223372036854775808 ≤ k ∧ k ≤ 9223372036854775807) (hi : -9223372036854775808 ≤ i ∧ i ≤ 9223372036854775807) (hm : w.cell? ⟨0, 0, none⟩ = some (.int .i64 m)) :
    Calls Tryd.prog 6 #[v, .int .i64 k, sv, .int .i64 i, .agg #[.int .i64 t.kind, .string (str t.name), .string (str t.val)]] w fun e w' => e = .returned (.bool true) ∧ Below w.heap.size w w' := by
  obtain ⟨na, ncap, rfl, hnc1, hnc2⟩ := hv.form
  obtain ⟨pa, pcap, rfl, hpc1, hpc2⟩ := NestAt.form hp
  unfold maxLen at hnc2 hpc2
  have hfew := hns.few
  obtain ⟨wb, HWB⟩ : ∃ y, Hid (w.alloc (.cells #[.int .i64 t.kind, .string (str t.name), .string (str t.val)] 42 (0, 0)) = y) := ⟨_, rfl⟩
  have kb : Kept (fun _ => False) w wb := by rw [← HWB.out]; exact (Kept.refl _ w).alloc _
  have hb : wb.heap[w.heap.size]? = some (.cells #[.int .i64 t.kind, .string (str t.name), .string (str t.val)] 42 (0, 0)) := by rw [← HWB.out]; exact newIn w _
  have KB := Lib.hid kb
  have HB := Lib.hid hb
  have HV := Lib.hid (nodes_firm.kept hv kb)
  have HP := Lib.hid (parts_firm.kept hp kb)
  have HM := Lib.hid (kb.cell id hm)
  have HNS := Lib.hid hns
  have HK := Lib.hid hk
  have HTL := Lib.hid htl
  obtain ⟨bx, HBX⟩ : ∃ x, Hid (w.heap.size = x) := ⟨_, rfl⟩
  rw [HBX.out] at HB
  clear hv hp hm hns kb hb htl
  go_enter Tryd.func6, Tryd.ntmps6
  go_upto_region 1 with fail
  rw [HWB.out, HBX.out]
  go_wp2_with fail
  refine (alive3_any wb m HM.out).mono ?_
  rintro e w1 ⟨rfl, hk1⟩
  have K1 := Lib.hid hk1
  clear hk1
  by_cases hi1 : i < 0
  · go_wp2_with fail
    go_ret
    exact ⟨rfl, (KB.out.trans K1.out).below⟩
  · by_cases hi2 : (s.length : Int) ≤ i
    · go_wp2_with fail
      go_ret
      exact ⟨rfl, (KB.out.trans K1.out).below⟩
    · obtain ⟨n, rfl⟩ : ∃ n : Nat, i = (n : Int) := ⟨i.toNat, by omega⟩
      have hnl : n < s.length := by omega
      have hxx := List.getElem?_eq_getElem hnl
      generalize hgx : s[n] = p at hxx
      clear hgx
      obtain ⟨pb, po, pv, rfl, hpc, hpt⟩ := NestAt.at HP.out hxx
      obtain ⟨ta, tc, rfl, htc1, htc2⟩ := TestsAt.form hpt
      unfold maxLen at htc2
      have p1 : wb.cell? ⟨pb, po + n * 2 + 1, none⟩ = some (.slice ta p.tests.length tc) := hpc 1 _ rfl
      have HXX := Lib.hid hxx
      obtain ⟨i0, hi0, hz0, hz1, hz2⟩ := info_parts info_part
      obtain ⟨wd, HWD⟩ : ∃ y, Hid (w1.alloc (.cells #[] 45 (0, 0)) = y) := ⟨_, rfl⟩
      have kd : Kept (fun _ => False) w1 wd := by rw [← HWD.out]; exact (Kept.refl _ w1).alloc _
      have hod : wd.ownsRow w1.heap.size 45 2 (.slice (some ⟨w1.heap.size, 0, none⟩) 0 0) 0 [] := by rw [← HWD.out]; exact owns_built w1 _ _ _ (Nat.le_refl _)
      obtain ⟨vs, hv1, hv2, hv3⟩ := HP.out
      obtain ⟨a5, c5, w5, hr5, ho5, k5, hl5⟩ := append_any (P := Tryd.prog) wd 40 40 w1.heap.size 45 i0 _ 2 32 Tryd.underlying40 hi0 hz0 hz1 hz2 rfl (by omega) _ 0 0 [] hod (some ⟨pb, po, none⟩) (List.length s) pcap _ (hv2.below (K1.out.trans kd).below) (zipRows partCells_len) (parts_ones hv3) (by unfold maxLen; omega) (by omega) (by have := kd.size; omega)
      have k5' : Kept (fun k => k = w1.heap.size) wd w5 := k5.mono (fun k _ h => by simp only [Value.ownBlock, Option.some.injEq] at h; exact h.symm)
      have kc5 : Kept (fun _ => False) w1 w5 := kd.trans' k5' (fun i hi h => by omega)
      have hz : ∃ g, a5 = some ⟨g, 0, none⟩ ∧ w1.heap.size ≤ g ∧ g < w5.heap.size ∧ ∃ cur, w5.heap[g]? = some (.cells cur 45 (0, 0)) := by
        have hlt := ho5.lt
        rcases ho5.2 with ⟨h, h0⟩ | ⟨g, cap, cur, h1, h2, h3, _⟩
        · omega
        · cases h1; exact ⟨g, rfl, h2, (hlt g rfl).2, cur, h3⟩
      obtain ⟨g, rfl, hg, hgl, cur, hcur⟩ := hz
      rw [Nat.zero_add] at hr5 ho5
      rw [List.nil_append] at ho5
      have HO := Lib.hid ho5
      rw [← HWD.out] at hr5
      have HR5 := Lib.hid hr5
      have HVS := Lib.hid hv3
      have HG := Lib.hid hg
      have HCU := Lib.hid hcur
      have K5 := Lib.hid (K1.out.trans kc5)
      have hbw : wb.heap.size ≤ g := Nat.le_trans K1.out.size hg
      have HPT := Lib.hid (tests_firm.kept hpt K5.out)
      have q0 : w5.cell? ⟨pb, po + n * 2 + 1, none⟩ = some (.slice ta p.tests.length tc) := K5.out.cell id p1
      have HB5 := K5.out.heap id HB.out
      have b0 : w5.cell? ⟨bx, 0, none⟩ = some (.int .i64 t.kind) := cellIn HB5 0 rfl
      have b1 : w5.cell? ⟨bx, 1, none⟩ = some (.string (str t.name)) := cellIn HB5 1 rfl
      have b2 : w5.cell? ⟨bx, 2, none⟩ = some (.string (str t.val)) := cellIn HB5 2 rfl
      have KS : Hid (∀ w', Kept (fun _ => False) wb w' → w'.cell? ⟨pb, po + n * 2 + 1, none⟩ = some (.slice ta p.tests.length tc) ∧ w'.cell? ⟨bx, 0, none⟩ = some (.int .i64 t.kind) ∧ w'.cell? ⟨bx, 1, none⟩ = some (.string (str t.name)) ∧ w'.cell? ⟨bx, 2, none⟩ = some (.string (str t.val))) :=
        Lib.hid (fun w' hk => ⟨hk.cell id p1, hk.cell id (cellIn HB.out 0 rfl), hk.cell id (cellIn HB.out 1 rfl), hk.cell id (cellIn HB.out 2 rfl)⟩)
      have hrow : RowsAt w5 2 (.slice (some ⟨g, 0, none⟩) (List.length s) c5) (List.zipWith partCells s vs) := rowsAt_of_owns (n := List.length s) (zipRows partCells_len) (by simp [hv1]) ho5
      have hvn : vs[n]? = some (vs[n]'(by omega)) := List.getElem?_eq_getElem _
      obtain ⟨g', o', hgg, hcells⟩ := RowsAt.at hrow (k := n) (r := partCells p (vs[n]'(by omega))) (by simp [List.getElem?_zipWith, HXX.out, hvn])
      cases hgg
      have q1 : Hid (w5.cell? ⟨g, n * 2 + 1, none⟩ = some (vs[n]'(by omega))) := Lib.hid (by have := hcells 1 _ rfl; simpa using this)
      clear kd hod k5 k5' kc5 hl5 hr5 ho5 hv2 hv3 hg hcur p1 HB5 hpt hpc hxx hrow hvn hcells
      go_upto_region 6 with (at_builtin; refine wpList_append_eq (by rfl) _ _ _ rfl _ _ _ rfl rfl _ HR5.out ?_)
      obtain ⟨l0, hl0, hw0, hw1, hw2⟩ := info_parts info_test
      have htn := HTL.out p (List.mem_of_getElem? HXX.out)
      have EA : (w5.drew.alloc (.cells #[] 42 (0, 0))).heap[w5.heap.size]? = some (.cells #[] 42 (0, 0)) := newIn w5.drew _
      have EAB0 : ((w5.drew.alloc (.cells #[] 42 (0, 0))).alloc (.cells #[.int .i64 t.kind, .string (str t.name), .string (str t.val)] 42 (0, 0))).heap[w5.heap.size]? = some (.cells #[] 42 (0, 0)) := oldIn EA _
      have EAB1 : ((w5.drew.alloc (.cells #[] 42 (0, 0))).alloc (.cells #[.int .i64 t.kind, .string (str t.name), .string (str t.val)] 42 (0, 0))).heap[w5.heap.size + 1]? = some (.cells #[.int .i64 t.kind, .string (str t.name), .string (str t.val)] 42 (0, 0)) := by
        have := newIn (w5.drew.alloc (.cells #[] 42 (0, 0))) (.cells #[.int .i64 t.kind, .string (str t.name), .string (str t.val)] 42 (0, 0))
        simpa using this
      have EBA0 : ((w5.drew.alloc (.cells #[.int .i64 t.kind, .string (str t.name), .string (str t.val)] 42 (0, 0))).alloc (.cells #[] 42 (0, 0))).heap[w5.heap.size]? = some (.cells #[.int .i64 t.kind, .string (str t.name), .string (str t.val)] 42 (0, 0)) := oldIn (newIn w5.drew _) _
      have EBA1 : ((w5.drew.alloc (.cells #[.int .i64 t.kind, .string (str t.name), .string (str t.val)] 42 (0, 0))).alloc (.cells #[] 42 (0, 0))).heap[w5.heap.size + 1]? = some (.cells #[] 42 (0, 0)) := by
        have := newIn (w5.drew.alloc (.cells #[.int .i64 t.kind, .string (str t.name), .string (str t.val)] 42 (0, 0))) (.cells #[] 42 (0, 0))
        simpa using this
      go_region_held3 (fun w' => w'.cell? ⟨pb, po + n * 2 + 1, none⟩ = some (.slice ta p.tests.length tc) ∧ w'.cell? ⟨bx, 0, none⟩ = some (.int .i64 t.kind) ∧ w'.cell? ⟨bx, 1, none⟩ = some (.string (str t.name)) ∧ w'.cell? ⟨bx, 2, none⟩ = some (.string (str t.val))) (first | exact KS.out _ ((K5.out.trans hk7).setCell (p := ⟨g, n * 2 + 1, none⟩) (.inr hbw) _) | exact KS.out _ (K5.out.trans hk7) | exact KS.out _ (K5.out.trans hk6) | exact KS.out _ ((K5.out.trans hk6).alloc _) | go_keep)
        (first
          | (refine arm_copy (w5 := w5) hl0 hw0 hw1 hw2 (by rfl) _ _ (by rfl) _ ta tc p.tests.length p.tests (by rfl) (by rfl) (by assumption) (by omega) (by first | exact (Kept.refl _ w5).drew.alloc _ | exact ((Kept.refl _ w5).drew.alloc _).alloc _) HPT.out rfl htn ?_; intro a6 c6 w6 ho6 hk6 hf6)
          | (refine arm_more (w5 := w5) hl0 hw0 hw1 hw2 (by rfl) _ _ (by rfl) _ _ p.tests.length _ (p.tests.map testCells) t (by rfl) (by rfl) (by first | exact ho6 | exact ho6.alloc _) (by first | exact newIn _ _ | exact hf6 _ _ (by omega) EAB1 | exact hf6 _ _ (by omega) EBA0) (by first | exact hk6 | exact hk6.alloc _) htn ?_; intro a7 c7 w7 ho7 hk7; have q7 := hk7.cell id q1.out; have f7 := freeIn (hk7.heap id HCU.out) (n * 2 + 1)))
      all_goals
        obtain ⟨S', HS'⟩ : ∃ y, Hid (s.take n ++ { p with tests := p.tests ++ [t] } :: s.drop (n + 1) = y) := ⟨_, rfl⟩
        obtain ⟨wz, HWZ⟩ : ∃ y, Hid (w7.setCell ⟨g, n * 2 + 1, none⟩ (.slice a7 (p.tests.length + 1) c7) = y) := ⟨_, rfl⟩
        have hkz : Kept (fun _ => False) wb wz := by rw [← HWZ.out]; exact (K5.out.trans hk7).setCell (p := ⟨g, n * 2 + 1, none⟩) (.inr hbw) _
        have hpz : PartsAt wz (.slice (some ⟨g, 0, none⟩) (List.length s) c5) S' := by
          have h0 := more_put (w0 := wb) (owns_still HO.out hk7 (fun _ _ h => h)) hv1 HVS.out HXX.out ho7 hgl (by rw [HWZ.out]; exact hkz)
          rw [HWZ.out, HS'.out] at h0
          exact h0
        have hnt' : nTests S' ≤ 1048576 := by rw [← HS'.out, more_few HXX.out]; omega
        have hwl : (mWeigh s).le (mWeigh S') := by rw [← HS'.out]; exact more_weighs HXX.out t
        have hmt : mMatches ns k S' = true → mMatches ns k s = true := by rw [← HS'.out]; exact more_test HXX.out t
        have KZ := Lib.hid hkz
        have HPZ := Lib.hid hpz
        have HMT := Lib.hid hmt
        clear ho7 hk7 hkz hpz q7 f7 hmt
        go_upto_region 7 with fail
        rw [HWZ.out]
        obtain ⟨⟨xa, xb, xc⟩, HWX⟩ : ∃ x, Hid (mWeigh s = x) := ⟨_, rfl⟩
        obtain ⟨⟨ya, yb, yc⟩, HWY⟩ : ∃ x, Hid (mWeigh S' = x) := ⟨_, rfl⟩
        rw [HWX.out, HWY.out] at hwl
        have HWL := Lib.hid hwl
        have HW1 := weigh_any s wz _ (parts_firm.kept HP.out KZ.out) (by omega)
        rw [HWX.out] at HW1
        unfold wtVal at HW1
        simp only at HW1
        have HW1 := Lib.hid HW1
        clear hwl
        go_wp2_with fail
        refine HW1.out.mono ?_
        rintro e w8 ⟨rfl, hk8⟩
        have K8 := Lib.hid (KZ.out.trans hk8)
        have HP8 := Lib.hid (parts_firm.kept HPZ.out hk8)
        have HW2 := weigh_any S' w8 _ HP8.out hnt'
        rw [HWY.out] at HW2
        unfold wtVal at HW2
        simp only at HW2
        have HW2 := Lib.hid HW2
        clear hk8
        go_upto_region 8 with (go_at_call 20; refine HW2.out.mono ?_; rintro e w9 ⟨rfl, hk9⟩)
        have K9 := Lib.hid (K8.out.trans hk9)
        have HP9 := Lib.hid (parts_firm.kept HP8.out hk9)
        obtain ⟨wA, HWA⟩ : ∃ x, Hid ((w9.alloc (.cells #[.int .i64 (xa : Int), .int .i64 (xb : Int), .int .i64 (xc : Int)] 47 (0, 0))).alloc (.cells #[.int .i64 (ya : Int), .int .i64 (yb : Int), .int .i64 (yc : Int)] 47 (0, 0)) = x) := ⟨_, rfl⟩
        have hxw : WtAt wA w9.heap.size ⟨xa, xb, xc⟩ := by rw [← HWA.out]; exact oldIn (newIn w9 _) _
        have hyw : WtAt wA (w9.heap.size + 1) ⟨ya, yb, yc⟩ := by
          rw [← HWA.out]
          have := newIn (w9.alloc (.cells #[.int .i64 (xa : Int), .int .i64 (xb : Int), .int .i64 (xc : Int)] 47 (0, 0))) (.cells #[.int .i64 (ya : Int), .int .i64 (yb : Int), .int .i64 (yc : Int)] 47 (0, 0))
          simpa [WtAt] using this
        have hkA : Kept (fun _ => False) w9 wA := by rw [← HWA.out]; exact ((Kept.refl _ w9).alloc _).alloc _
        have KA := Lib.hid (K9.out.trans hkA)
        have HPA := Lib.hid (parts_firm.kept HP9.out hkA)
        have HXW := Lib.hid hxw
        have HYW := Lib.hid hyw
        clear hk9 hxw hyw hkA
        rw [HWA.out]
        obtain ⟨j1, hj1, hy0, hy1, hy2⟩ := info_parts (show (Tryd.prog.info? 3).map (fun i => (i.zero, i.size, i.bytes)) = some (some (.int .i64 0), 1, 8) by kernel_rfl)
        go_wp2_with fail
        go_loopw [46] (fun i wr => ∃ k : Nat, k ≤ 3 ∧ i = .int .i64 k ∧ (∃ n, wr = wA.drewN n)) (fun i _ => 3 - (intOf i).toNat)
        case atStart => exact ⟨0, by omega, rfl, ⟨0, rfl⟩⟩
        case round =>
          obtain ⟨kk, hkk, rfl, ⟨n0, rfl⟩⟩ := hrel
          by_cases hlt : kk < 3
          · obtain ⟨cu, cv, c1, c2, huv⟩ := le_step HXW.out.ints HYW.out.ints HWL.out hlt
            have ed : decide ((kk : Int) < 3) = true := by simp; omega
            have e9 : (kk : Int) < 3 := by omega
            have e2 : decide ((cv : Int) < (cu : Int)) = false := by simp; omega
            go_upto_region 11 with fail
            go_quiet (fail)
            go_wp2_with fail
            go_roundw
            case measure => simp [intOf]; omega
            case rel => exact ⟨kk + 1, by omega, by go_num, ⟨_, rfl⟩⟩
          · obtain rfl : kk = 3 := by omega
            obtain ⟨b1, HB1⟩ : ∃ b, Hid (mMatches ns k S' = b) := ⟨_, rfl⟩
            have HM1 := matches_any ns HNS.out S' m (wA.drewN n0) _ _ k (nodes_firm.kept HV.out (KA.out.drewN n0)) (parts_firm.kept HPA.out ((Kept.refl _ wA).drewN n0)) HK.out ((KA.out.drewN n0).cell id HM.out)
            rw [HB1.out] at HM1
            have HM1 := Lib.hid HM1
            go_wp2_with fail
            refine HM1.out.mono ?_
            rintro e wB ⟨rfl, hkB⟩
            have KB2 := Lib.hid ((KA.out.drewN n0).trans hkB)
            clear hkB
            cases b1 with
            | false =>
              go_wp2_with fail
              go_ret
              exact ⟨rfl, (KB.out.trans KB2.out).below⟩
            | true =>
              have hs1 := HMT.out HB1.out
              have HM2 := matches_any ns HNS.out s m wB _ _ k (nodes_firm.kept HV.out KB2.out) (parts_firm.kept HP.out KB2.out) HK.out (KB2.out.cell id HM.out)
              rw [hs1] at HM2
              have HM2 := Lib.hid HM2
              clear hs1
              go_wp2_with (go_at_call 21; refine HM2.out.mono ?_; rintro e wC ⟨rfl, hkC⟩)
              go_ret
              exact ⟨rfl, (KB.out.trans (KB2.out.trans hkC)).below⟩
end Go.Proofs.YtplbdlgmjehckaaDoor
