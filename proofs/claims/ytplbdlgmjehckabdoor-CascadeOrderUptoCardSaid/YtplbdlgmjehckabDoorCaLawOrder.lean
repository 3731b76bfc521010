/-
  inklaw5.CascadeOrder: told twice is told once.
-/
import Derived.Test.YtplbdlgmjehckabDoorCaCore
import Derived.Test.YtplbdlgmjehckabDoorCaLaws
import Derived.Test.YtplbdlgmjehckabDoorCaSame
namespace Go.Proofs.YtplbdlgmjehckabDoor
open Go.RowKit
set_option linter.unusedVariables false
set_option linter.unusedSimpArgs false

def errOf : Ans (List PDecl) → Nat
  | .bad f => f.err
  | .ok _ => 0
def lookOf : Ans (List PDecl) → List PDecl
  | .bad _ => []
  | .ok l => l
theorem dc_any {w : World} {r : Ans (List PDecl)} {e : Ending} {w' : World} (h : DcEnds w r e w') : ∃ v, e = .returned (.tuple #[v, .int .i64 (errOf r : Int)]) ∧ Kept (fun _ => False) w w' ∧ DeclsAt w' v (lookOf r) := by
  cases r with
  | bad f => obtain ⟨h1, h2, _⟩ := h; exact ⟨_, h1, h2, RowsAt.nil _ _⟩
  | ok l => obtain ⟨v, h1, h2, h3, _⟩ := h; exact ⟨v, h1, h2, h3⟩
theorem NestAt.dropN {α : Type} {f : α → Value → List Value} {size : Nat} {Q : World → Value → α → Prop} {w : World} {b off len cap : Nat} {xs : List α} (h : NestAt f size Q w (.slice (some ⟨b, off, none⟩) len cap) xs) {n : Nat} (hn : n ≤ len) :
    NestAt f size Q w (.slice (some ⟨b, off + n * size, none⟩) (len - n) (cap - n)) (xs.drop n) := by
  obtain ⟨vs, h0, ⟨a', cap', hv, h1, h2, h3⟩, h4⟩ := h
  simp only [Value.slice.injEq] at hv
  obtain ⟨rfl, hl, rfl⟩ := hv
  simp only [List.length_zipWith] at hl h1
  rw [h0, Nat.min_self] at hl h1
  refine ⟨vs.drop n, by simp [h0], ⟨some ⟨b, off + n * size, none⟩, cap - n, by simp [h0, hl], by simp [h0]; omega, by omega, fun hne => ?_⟩, fun i x u hx hu => ?_⟩
  · have hne' : List.zipWith f xs vs ≠ [] := by
      intro e
      apply hne
      rw [← List.drop_zipWith, e, List.drop_nil]
    obtain ⟨b', off', hb, h5⟩ := h3 hne'
    cases hb
    refine ⟨_, _, rfl, fun i r hr j c hj => ?_⟩
    rw [← List.drop_zipWith, List.getElem?_drop] at hr
    have := h5 (n + i) r hr j c hj
    rw [Nat.add_mul, ← Nat.add_assoc] at this
    exact this
  · rw [List.getElem?_drop] at hx hu
    exact h4 (n + i) x u hx hu
theorem NestAt.takeN {α : Type} {f : α → Value → List Value} {size : Nat} {Q : World → Value → α → Prop} {w : World} {b off len cap : Nat} {xs : List α} (h : NestAt f size Q w (.slice (some ⟨b, off, none⟩) len cap) xs) {n : Nat} (hn : n ≤ len) :
    NestAt f size Q w (.slice (some ⟨b, off, none⟩) n cap) (xs.take n) := by
  obtain ⟨vs, h0, ⟨a', cap', hv, h1, h2, h3⟩, h4⟩ := h
  simp only [Value.slice.injEq] at hv
  obtain ⟨rfl, hl, rfl⟩ := hv
  simp only [List.length_zipWith] at hl h1
  rw [h0, Nat.min_self] at hl h1
  refine ⟨vs.take n, by simp [h0], ⟨some ⟨b, off, none⟩, cap, by simp [h0]; omega, by simp [h0]; omega, h2, fun hne => ?_⟩, fun i x u hx hu => ?_⟩
  · have hne' : List.zipWith f xs vs ≠ [] := by
      intro e
      apply hne
      rw [← List.take_zipWith, e, List.take_nil]
    obtain ⟨b', off', hb, h5⟩ := h3 hne'
    cases hb
    refine ⟨_, _, rfl, fun i r hr j c hj => ?_⟩
    rw [← List.take_zipWith] at hr
    exact h5 i r (by rw [List.getElem?_take] at hr; split at hr; exact hr; cases hr) j c hj
  · rw [List.getElem?_take] at hx hu
    split at hx
    · rename_i hin
      rw [if_pos hin] at hu
      exact h4 i x u hx hu
    · cases hx

/-! ### appends of rules, at steps that are drawn -/
theorem ruleCells_len5 (r : PRule) (u : Value) : (ruleCells r u).length = 5 := rfl
theorem zip_len5 {xs : List PRule} {vs : List Value} : ∀ r ∈ List.zipWith ruleCells xs vs, r.length = 5 := by
  intro r hr
  rw [List.mem_iff_getElem?] at hr
  obtain ⟨i, hi⟩ := hr
  rw [List.getElem?_zipWith] at hi
  split at hi
  · cases hi; rfl
  · cases hi
theorem rule_ones {w : World} {r : PRule} {u : Value} (h : RuleAt w u r) : ∀ x ∈ ruleCells r u, x.oneCell' = true := by
  obtain ⟨sv, dv, rfl, h1, h2⟩ := h
  obtain ⟨a, c, rfl, _⟩ := NestAt.form h1
  obtain ⟨b, d, rfl, _⟩ := DeclsAt.form h2
  intro x hx
  simp only [ruleCells, vFst, vSnd, List.mem_cons, List.not_mem_nil, or_false] at hx
  rcases hx with rfl | rfl | rfl | rfl | rfl <;> rfl
theorem zip_ones {w : World} {xs : List PRule} {vs : List Value} (h : ∀ (i : Nat) (x : PRule) (u : Value), xs[i]? = some x → vs[i]? = some u → RuleAt w u x) : ∀ x ∈ (List.zipWith ruleCells xs vs).flatten, x.oneCell' = true := by
  intro x hx
  obtain ⟨r, hr, hxr⟩ := List.mem_flatten.1 hx
  obtain ⟨i, hi⟩ := List.mem_iff_getElem?.1 hr
  rw [List.getElem?_zipWith] at hi
  cases hxi : xs[i]? with
  | none => rw [hxi] at hi; simp at hi
  | some y =>
    cases hvi : vs[i]? with
    | none => rw [hxi, hvi] at hi; simp at hi
    | some u =>
      rw [hxi, hvi] at hi
      simp only [Option.some.injEq] at hi
      subst hi
      exact rule_ones (h i y u hxi hvi) x hxr
theorem owns_emptyr {w : World} {base G : Nat} (hG : w.heap[G]? = some (.cells #[] 36 (0, 0))) (hb : base ≤ G) : w.ownsRow base 36 5 (.slice (some ⟨G, 0, none⟩) 0 0) 0 [] :=
  ⟨by simp, .inr ⟨G, 0, #[], rfl, hb, hG, Nat.le_refl _, by unfold maxLen; omega, by simp, by simp⟩⟩
section
variable {ops : Array Oper} {o : Oper} {a : Act} {K : Act → World → Prop} {Q : Exit → Act → World → Prop} {E : Prop} {w5 wc : World} {i0 : TypeInfo}
theorem arm_r1 (hi0 : Tryd.prog.info? 36 = some i0) {z : Value} (hz0 : i0.zero = some z) (hz3 : z.cells.size = 5) (hz1 : i0.size = 5) (hz2 : i0.bytes = 80)
    (hgd : o.guard = none) (s x : Operand) (ho : o.op = .call { callee := .builtin .append, args := #[s, x], argTypes := #[23, 23] })
    (G : Nat) (ta : Option Addr) (tc n : Nat) (rows : List (List Value)) (hs : a.eval s = .slice (some ⟨G, 0, none⟩) 0 0) (hx : a.eval x = .slice ta n tc) (hG : wc.heap[G]? = some (.cells #[] 36 (0, 0))) (hGw : w5.heap.size ≤ G) (hK : Kept (fun _ => False) w5 wc)
    (hr : RowsAt w5 5 (.slice ta n tc) rows) (hl : ∀ r ∈ rows, r.length = 5) (h1 : ∀ u ∈ rows.flatten, u.oneCell' = true) (hn2 : n ≤ 2097152)
    (h : ∀ a6 c6 w6, w6.ownsRow w5.heap.size 36 5 (.slice a6 n c6) n rows.flatten → Kept (fun _ => False) w5 w6 → (∀ (q : Nat) (ob : Obj), q ≠ G → wc.heap[q]? = some ob → w6.heap[q]? = some ob) → K (a.put o.dst (.slice a6 n c6)) w6) :
    if Region.wanted o (yielded ops a.tmps) = true then Oper.wp Tryd.prog o a wc K Q else E := by
  obtain ⟨a6, c6, w6, hr6, ho6, k6, _⟩ := append_any (P := Tryd.prog) wc 23 o.type w5.heap.size 36 i0 z 5 80 Tryd.underlying23 hi0 hz0 hz1 hz2 hz3 (by omega) _ 0 0 [] (owns_emptyr hG hGw) ta n tc _ (RowsAt.below hr hK.below) hl h1 (by unfold maxLen; omega) (by omega) hK.size
  rw [Nat.zero_add] at hr6 ho6
  refine step_append_own hgd s x _ ho _ _ _ hs hx w6 hr6 (h a6 c6 w6 (by simpa using ho6) (hK.trans' k6 (fun i hi hx => ?_)) (fun q ob hq hob => k6.heap (fun hx => ?_) hob))
  · simp only [Value.ownBlock, Option.some.injEq] at hx; omega
  · simp only [Value.ownBlock, Option.some.injEq] at hx; omega
theorem arm_r2 (hi0 : Tryd.prog.info? 36 = some i0) {z : Value} (hz0 : i0.zero = some z) (hz3 : z.cells.size = 5) (hz1 : i0.size = 5) (hz2 : i0.bytes = 80)
    (hgd : o.guard = none) (s x : Operand) (ho : o.op = .call { callee := .builtin .append, args := #[s, x], argTypes := #[23, 23] })
    (a6 : Option Addr) (c6 n Bk : Nat) (rows : List (List Value)) (row : List Value) (hrl : row.length = 5) (hr1 : ∀ u ∈ row, u.oneCell' = true) (hs : a.eval s = .slice a6 n c6) (hx : a.eval x = .slice (some ⟨Bk, 0, none⟩) 1 1) (ho6 : wc.ownsRow w5.heap.size 36 5 (.slice a6 n c6) n rows.flatten)
    (hB : wc.heap[Bk]? = some (.cells row.toArray 36 (0, 0))) (hK : Kept (fun _ => False) w5 wc) (hn2 : n ≤ 2097152)
    (h : ∀ a7 c7 w7, w7.ownsRow w5.heap.size 36 5 (.slice a7 (n + 1) c7) (n + 1) (rows ++ [row]).flatten → Kept (fun _ => False) w5 w7 → K (a.put o.dst (.slice a7 (n + 1) c7)) w7) :
    if Region.wanted o (yielded ops a.tmps) = true then Oper.wp Tryd.prog o a wc K Q else E := by
  obtain ⟨a7, c7, w7, hr7, ho7, k7, _⟩ := append_any (P := Tryd.prog) wc 23 o.type w5.heap.size 36 i0 z 5 80 Tryd.underlying23 hi0 hz0 hz1 hz2 hz3 (by omega) a6 n c6 _ ho6 (some ⟨Bk, 0, none⟩) 1 1 [row] (rows_fresh hB (by simp) (by simpa using hrl) rfl (by simp [maxLen])) (by simpa using hrl) (by simpa using hr1) (by unfold maxLen; omega) (by omega) hK.size
  refine step_append_own hgd s x _ ho _ _ _ hs hx w7 hr7 (h a7 c7 w7 (by simpa using ho7) (hK.trans' k7 (fun i hi hx => ?_)))
  have := (ho6.lt i hx).1; omega
theorem arm_r3 (hi0 : Tryd.prog.info? 36 = some i0) {z : Value} (hz0 : i0.zero = some z) (hz3 : z.cells.size = 5) (hz1 : i0.size = 5) (hz2 : i0.bytes = 80)
    (hgd : o.guard = none) (s x : Operand) (ho : o.op = .call { callee := .builtin .append, args := #[s, x], argTypes := #[23, 23] })
    (a6 : Option Addr) (c6 n : Nat) (ta : Option Addr) (tc m : Nat) (rows rows' : List (List Value)) (hs : a.eval s = .slice a6 n c6) (hx : a.eval x = .slice ta m tc) (ho6 : wc.ownsRow w5.heap.size 36 5 (.slice a6 n c6) n rows.flatten) (hK : Kept (fun _ => False) w5 wc)
    (hr : RowsAt w5 5 (.slice ta m tc) rows') (hl : ∀ r ∈ rows', r.length = 5) (h1 : ∀ u ∈ rows'.flatten, u.oneCell' = true) (hn2 : n ≤ 2097152) (hm2 : m ≤ 2097152)
    (h : ∀ a7 c7 w7, w7.ownsRow w5.heap.size 36 5 (.slice a7 (n + m) c7) (n + m) (rows ++ rows').flatten → Kept (fun _ => False) w5 w7 → K (a.put o.dst (.slice a7 (n + m) c7)) w7) :
    if Region.wanted o (yielded ops a.tmps) = true then Oper.wp Tryd.prog o a wc K Q else E := by
  obtain ⟨a7, c7, w7, hr7, ho7, k7, _⟩ := append_any (P := Tryd.prog) wc 23 o.type w5.heap.size 36 i0 z 5 80 Tryd.underlying23 hi0 hz0 hz1 hz2 hz3 (by omega) a6 n c6 _ ho6 ta m tc _ (RowsAt.below hr hK.below) hl h1 (by unfold maxLen; omega) (by omega) hK.size
  refine step_append_own hgd s x _ ho _ _ _ hs hx w7 hr7 (h a7 c7 w7 (by simpa using ho7) (hK.trans' k7 (fun i hi hx => ?_)))
  have := (ho6.lt i hx).1; omega
end
theorem rules_made {w5 w8 : World} {base N : Nat} {v : Value} {xs : List PRule} {vs : List Value} (h0 : vs.length = xs.length) (h1 : ∀ (i : Nat) (x : PRule) (u : Value), xs[i]? = some x → vs[i]? = some u → RuleAt w5 u x) (hk : Kept (fun _ => False) w5 w8) (hN : N = xs.length)
    (ho : w8.ownsRow base 36 5 v N (List.zipWith ruleCells xs vs).flatten) : RulesAt w8 v xs :=
  ⟨vs, h0, rowsAt_of_owns zip_len5 (by simp [h0, hN]) ho, fun i x u hx hu => rule_firm.kept (h1 i x u hx hu) hk⟩
theorem both_app {w : World} {xs ys : List PRule} {va vb : List Value} (h0 : va.length = xs.length) (h1 : ∀ (i : Nat) (x : PRule) (u : Value), xs[i]? = some x → va[i]? = some u → RuleAt w u x) (h2 : ∀ (i : Nat) (x : PRule) (u : Value), ys[i]? = some x → vb[i]? = some u → RuleAt w u x) :
    ∀ (i : Nat) (x : PRule) (u : Value), (xs ++ ys)[i]? = some x → (va ++ vb)[i]? = some u → RuleAt w u x := by
  intro i x u hx hu
  by_cases hi : i < xs.length
  · rw [List.getElem?_append_left hi] at hx
    rw [List.getElem?_append_left (by omega)] at hu
    exact h1 i x u hx hu
  · rw [List.getElem?_append_right (by omega)] at hx
    rw [List.getElem?_append_right (by omega), h0] at hu
    exact h2 _ x u hx hu
theorem cactx_sub {ns : List PNode} {rs qs : List PRule} (h : CaCtx ns rs) (hm : ∀ q ∈ qs, q ∈ rs) (hl : qs.length ≤ 2097152) (hd : nDecls qs ≤ 274877906944) : CaCtx ns qs :=
  ⟨h.nodes, fun r hr => h.tests r (hm r hr), fun r hr => h.vals r (hm r hr), fun r hr => h.each r (hm r hr), hd, hl⟩
theorem nDecls_app (a b : List PRule) : nDecls (a ++ b) = nDecls a + nDecls b := by unfold nDecls; simp
theorem nDecls_wt (rs : List PRule) : nDecls rs ≤ (rs.map wtRule).sum :=
  sum_map_le (fun r : PRule => r.decls.length) wtRule (fun r => by
    have := sum_len wtDecl decl_low1 r.decls
    unfold wtRule; omega) rs

set_option maxRecDepth 100000 in
set_option maxHeartbeats 6400000 in
theorem order5_any (ns : List PNode) (rs : List PRule) (hc : CaCtx ns rs) (hnd : nDecls rs ≤ 1048576) (hrl : rs.length ≤ 1048576) (media : List B) (k at' : Int) (hk : -9223372036854775808 ≤ k ∧ k ≤ 9223372036854775807) (m : Int) (w : World) (v rv mv : Value) (hv : NodesAt w v ns) (hr : RulesAt w rv rs) (hmv : StrsAt w mv media) (hm : w.cell? ⟨0, 0, none⟩ = some (.int .i64 m)) :
    Calls Tryd.prog 3 #[v, .int .i64 k, rv, mv, .int .i64 at'] w fun e w' => e = .returned (.bool true) ∧ Kept (fun _ => False) w w' := by
  obtain ⟨na, ncap, rfl, hnc1, hnc2⟩ := hv.form
  obtain ⟨ra, rcap, rfl, hrc1, hrc2⟩ := NestAt.form hr
  obtain ⟨ma, mcap, rfl, hmc1, hmc2⟩ := StrsAt.form hmv
  unfold maxLen at hnc2 hrc2 hmc2
  have HAL := Lib.hid (alive5_any w m hm)
  by_cases h0 : at' < 0
  · clear hc hv hr hmv hm
    go_enter Tryd.func3, Tryd.ntmps3
    go_wp2_with (go_at_call 6; refine HAL.out.mono ?_; rintro e w1 ⟨rfl, hk1⟩)
    go_ret
    exact ⟨rfl, hk1⟩
  by_cases h1 : (rs.length : Int) ≤ at'
  · clear hc hv hr hmv hm
    go_enter Tryd.func3, Tryd.ntmps3
    go_wp2_with (go_at_call 6; refine HAL.out.mono ?_; rintro e w1 ⟨rfl, hk1⟩)
    go_ret
    exact ⟨rfl, hk1⟩
  obtain ⟨n, rfl⟩ : ∃ n : Nat, at' = n := ⟨at'.toNat, by omega⟩
  have hnl : n < rs.length := by omega
  have hx := List.getElem?_eq_getElem hnl
  generalize hgx : rs[n] = r at hx
  clear hgx
  have hdr : rs.drop n = r :: rs.drop (n + 1) := by
    rw [List.drop_eq_getElem_cons hnl]; congr 1; exact (List.getElem?_eq_some_iff.1 hx).2
  have hsp : rs = rs.take n ++ (r :: rs.drop (n + 1)) := by rw [← hdr, List.take_append_drop]
  have HTW : Hid (cDeclared ns k ((rs.take n ++ [r]) ++ rs.drop n) media = cDeclared ns k rs media) := Lib.hid (by
    rw [hdr, List.append_assoc, List.singleton_append]
    conv => rhs; rw [hsp]
    exact declared_twice ns k _ _ r media)
  have HOT : Hid ((mBest ns k r.sels).2 = false → cDeclared ns k (rs.take n ++ rs.drop (n + 1)) media = cDeclared ns k rs media) := Lib.hid (fun h => by
    conv => rhs; rw [hsp]
    exact (declared_other h _ _ _).symm)
  have hmem := List.mem_of_getElem? hx
  have hnt : nDecls rs = nDecls (rs.take n) + nDecls (rs.drop n) := by rw [← nDecls_app, List.take_append_drop]
  have hnu : nDecls (rs.drop n) = r.decls.length + nDecls (rs.drop (n + 1)) := by rw [hdr]; unfold nDecls; simp
  have hn1 : nDecls [r] = r.decls.length := by unfold nDecls; simp
  have HCT : Hid (CaCtx ns ((rs.take n ++ [r]) ++ rs.drop n)) := Lib.hid (cactx_sub hc (fun q hq => by
    simp only [List.mem_append, List.mem_singleton] at hq
    rcases hq with (hq | rfl) | hq
    · exact List.mem_of_mem_take hq
    · exact hmem
    · exact List.mem_of_mem_drop hq) (by simp; omega) (by rw [nDecls_app, nDecls_app]; omega))
  have HCO : Hid (CaCtx ns (rs.take n ++ rs.drop (n + 1))) := Lib.hid (cactx_sub hc (fun q hq => by
    simp only [List.mem_append] at hq
    rcases hq with hq | hq
    · exact List.mem_of_mem_take hq
    · exact List.mem_of_mem_drop hq) (by simp; omega) (by rw [nDecls_app]; omega))
  have HCC := Lib.hid hc
  have HV := Lib.hid hv
  have HRS := Lib.hid hr
  have HMV := Lib.hid hmv
  have HM := Lib.hid hm
  have HX := Lib.hid hx
  have HFT := Lib.hid (hc.tests r hmem)
  clear hc hv hr hmv hm hx hsp hdr hnt hnu hn1 hnd hmem
  go_enter Tryd.func3, Tryd.ntmps3
  go_wp2_with fail
  refine HAL.out.mono ?_
  rintro e w1 ⟨rfl, hk1⟩
  have HK1 := Lib.hid hk1
  clear hk1
  obtain ⟨D, HD⟩ : ∃ x, Hid (cDeclared ns k rs media = x) := ⟨_, rfl⟩
  have HDC := declared_any ns rs HCC.out media k hk m w1 _ _ _ (nodes_firm.kept HV.out HK1.out) (rules_firm.kept HRS.out HK1.out) (RowsAt.below HMV.out HK1.out.below) (HK1.out.cell id HM.out)
  rw [HD.out] at HDC HTW HOT
  replace HDC := Lib.hid HDC
  go_wp2_with fail
  refine HDC.out.mono ?_
  intro e w5 he5
  obtain ⟨v5, rfl, hk5, hl5⟩ := dc_any he5
  obtain ⟨l5a, l5c, rfl, _, _⟩ := DeclsAt.form hl5
  have HK5 := Lib.hid (HK1.out.trans hk5)
  have HL5 := Lib.hid hl5
  have hR5 := rules_firm.kept HRS.out HK5.out
  obtain ⟨b, o, u, rfl, hcs, hru⟩ := NestAt.at hR5 HX.out
  obtain ⟨va, hva1, hva2, hva3⟩ := NestAt.takeN hR5 (n := n) (Nat.le_of_lt hnl)
  obtain ⟨vb, hvb1, hvb2, hvb3⟩ := NestAt.dropN hR5 (n := n) (Nat.le_of_lt hnl)
  obtain ⟨vz, hvz1, hvz2, hvz3⟩ := NestAt.dropN hR5 (n := n + 1) hnl
  have HRU := Lib.hid hru
  have hones := rule_ones hru
  obtain ⟨sv, dv, rfl, hss, hds⟩ := hru
  obtain ⟨sa, sc, rfl, hsc1, hsc2⟩ := NestAt.form hss
  obtain ⟨da, dc, rfl, hdc1, hdc2⟩ := DeclsAt.form hds
  unfold maxLen at hsc2 hdc2
  have c0 : w5.cell? ⟨b, o + n * 5, none⟩ = some (.string (str r.media)) := hcs 0 _ rfl
  have c1 : w5.cell? ⟨b, o + n * 5 + 1, none⟩ = some (.slice sa r.sels.length sc) := hcs 1 _ rfl
  have c2 : w5.cell? ⟨b, o + n * 5 + 2, none⟩ = some (.slice da r.decls.length dc) := hcs 2 _ rfl
  have c3 : w5.cell? ⟨b, o + n * 5 + 3, none⟩ = some (.int .i64 r.lo) := hcs 3 _ rfl
  have c4 : w5.cell? ⟨b, o + n * 5 + 4, none⟩ = some (.int .i64 r.hi) := hcs 4 _ rfl
  obtain ⟨i0, hi0, hz0, hz1, hz2⟩ := info_parts info_rule
  have HR1 := Lib.hid hva2
  have HR2 := Lib.hid hvb2
  have HZ1 := Lib.hid (zip_len5 (xs := rs.take n) (vs := va))
  have HZ2 := Lib.hid (zip_len5 (xs := rs.drop n) (vs := vb))
  have HO1 := Lib.hid (zip_ones hva3)
  have HO2 := Lib.hid (zip_ones hvb3)
  have HON := Lib.hid hones
  have HR3 := Lib.hid hvz2
  have HR3n : Hid (rcap = n + 1 → RowsAt w5 5 (.slice (some ⟨b, o, none⟩) (rs.length - (n + 1)) (rcap - (n + 1))) (List.zipWith ruleCells (rs.drop (n + 1)) vz)) := Lib.hid fun hc => by
    have h0 : rs.drop (n + 1) = [] := List.drop_of_length_le (by omega)
    rw [h0]
    exact ⟨some ⟨b, o, none⟩, rcap - (n + 1), by simp; omega, by simp, by unfold maxLen; omega, fun hx => absurd rfl hx⟩
  have HZ3 := Lib.hid (zip_len5 (xs := rs.drop (n + 1)) (vs := vz))
  have HO3 := Lib.hid (zip_ones hvz3)
  have HVA := Lib.hid (And.intro hva1 hva3)
  have HVZ := Lib.hid (And.intro hvz1 hvz3)
  have HFIN : Hid (∀ (w8 : World) (a8 : Option Addr) (c8 : Nat), w8.ownsRow w5.heap.size 36 5 (.slice a8 (n + 1 + (rs.length - n)) c8) (n + 1 + (rs.length - n)) ((List.zipWith ruleCells (rs.take n) va ++ [ruleCells r (.tuple #[.slice sa r.sels.length sc, .slice da r.decls.length dc])]) ++ List.zipWith ruleCells (rs.drop n) vb).flatten → Kept (fun _ => False) w5 w8 →
      RulesAt w8 (.slice a8 (n + 1 + (rs.length - n)) c8) ((rs.take n ++ [r]) ++ rs.drop n)) := Lib.hid fun w8 a8 c8 ho8 kc8 => by
    refine rules_made (w5 := w5) (base := w5.heap.size) (N := n + 1 + (rs.length - n)) (vs := (va ++ [.tuple #[.slice sa r.sels.length sc, .slice da r.decls.length dc]]) ++ vb) (by simp [hva1, hvb1]) (both_app (by simp [hva1]) (both_app hva1 hva3 (fun i x u hx hu => ?_)) hvb3) kc8 (by simp; omega) ?_
    · match i with
      | 0 => cases hx; cases hu; exact HRU.out
      | i + 1 => simp at hx
    · rw [List.zipWith_append (by simp [hva1]), List.zipWith_append (by simp [hva1])]
      exact ho8
  clear hcs hss hds hva1 hva2 hva3 hvb1 hvb2 hvb3 hvz1 hvz2 hvz3 hl5 hk5 he5 hones hR5
  have i1 : (0 : Int) ≤ (n : Int) := by omega
  have i2 : (n : Int) ≤ (rcap : Int) := by omega
  have i4 : (n : Int) ≤ (rs.length : Int) := by omega
  have hct : (rcap = n) = False := by simp; omega
  have EA : (w5.drew.alloc (.cells #[] 36 (0, 0))).heap[w5.heap.size]? = some (.cells #[] 36 (0, 0)) := newIn w5.drew _
  have EAB0 : ((w5.drew.alloc (.cells #[] 36 (0, 0))).alloc (.cells #[.string (str r.media), .slice sa r.sels.length sc, .slice da r.decls.length dc, .int .i64 r.lo, .int .i64 r.hi] 36 (0, 0))).heap[w5.heap.size]? = some (.cells #[] 36 (0, 0)) := oldIn EA _
  have EAB1 : ((w5.drew.alloc (.cells #[] 36 (0, 0))).alloc (.cells #[.string (str r.media), .slice sa r.sels.length sc, .slice da r.decls.length dc, .int .i64 r.lo, .int .i64 r.hi] 36 (0, 0))).heap[w5.heap.size + 1]? = some (.cells #[.string (str r.media), .slice sa r.sels.length sc, .slice da r.decls.length dc, .int .i64 r.lo, .int .i64 r.hi] 36 (0, 0)) := by
    have := newIn (w5.drew.alloc (.cells #[] 36 (0, 0))) (.cells #[.string (str r.media), .slice sa r.sels.length sc, .slice da r.decls.length dc, .int .i64 r.lo, .int .i64 r.hi] 36 (0, 0))
    simpa using this
  have EBA0 : ((w5.drew.alloc (.cells #[.string (str r.media), .slice sa r.sels.length sc, .slice da r.decls.length dc, .int .i64 r.lo, .int .i64 r.hi] 36 (0, 0))).alloc (.cells #[] 36 (0, 0))).heap[w5.heap.size]? = some (.cells #[.string (str r.media), .slice sa r.sels.length sc, .slice da r.decls.length dc, .int .i64 r.lo, .int .i64 r.hi] 36 (0, 0)) := oldIn (newIn w5.drew _) _
  have EBA1 : ((w5.drew.alloc (.cells #[.string (str r.media), .slice sa r.sels.length sc, .slice da r.decls.length dc, .int .i64 r.lo, .int .i64 r.hi] 36 (0, 0))).alloc (.cells #[] 36 (0, 0))).heap[w5.heap.size + 1]? = some (.cells #[] 36 (0, 0)) := by
    have := newIn (w5.drew.alloc (.cells #[.string (str r.media), .slice sa r.sels.length sc, .slice da r.decls.length dc, .int .i64 r.lo, .int .i64 r.hi] 36 (0, 0))) (.cells #[] 36 (0, 0))
    simpa using this
  go_upto_region 7 with fail
  go_region_held3 (fun w' => w'.cell? ⟨b, o + n * 5, none⟩ = some (.string (str r.media)) ∧ w'.cell? ⟨b, o + n * 5 + 1, none⟩ = some (.slice sa r.sels.length sc) ∧ w'.cell? ⟨b, o + n * 5 + 2, none⟩ = some (.slice da r.decls.length dc) ∧ w'.cell? ⟨b, o + n * 5 + 3, none⟩ = some (.int .i64 r.lo) ∧ w'.cell? ⟨b, o + n * 5 + 4, none⟩ = some (.int .i64 r.hi))
    (first | exact ⟨hk8.cell id c0, hk8.cell id c1, hk8.cell id c2, hk8.cell id c3, hk8.cell id c4⟩ | exact ⟨hk7.cell id c0, hk7.cell id c1, hk7.cell id c2, hk7.cell id c3, hk7.cell id c4⟩ | exact ⟨hk6.cell id c0, hk6.cell id c1, hk6.cell id c2, hk6.cell id c3, hk6.cell id c4⟩ | go_keep)
    (first
      | (refine arm_r3 (w5 := w5) hi0 hz0 rfl hz1 hz2 (by rfl) (.tmp 48) (.tmp 51) (by rfl) _ _ (n + 1) _ _ (rs.length - n) _ _ (by rfl) (by rfl) ho7 hk7 HR2.out HZ2.out HO2.out (by omega) (by omega) ?_; intro a8 c8 w8 ho8 hk8)
      | (refine arm_r2 (w5 := w5) hi0 hz0 rfl hz1 hz2 (by rfl) (.tmp 42) (.tmp 47) (by rfl) _ _ n _ (List.zipWith ruleCells (rs.take n) va) (ruleCells r (.tuple #[.slice sa r.sels.length sc, .slice da r.decls.length dc])) (by rfl) HON.out (by rfl) (by rfl) (by first | exact ho6 | exact ho6.alloc _) (by first | exact newIn _ _ | exact hf6 _ _ (by omega) EAB1 | exact hf6 _ _ (by omega) EBA0) (by first | exact hk6 | exact hk6.alloc _) (by omega) ?_; intro a7 c7 w7 ho7 hk7)
      | (refine arm_r1 (w5 := w5) hi0 hz0 rfl hz1 hz2 (by rfl) (.tmp 38) (.tmp 41) (by rfl) _ _ _ n _ (by rfl) (by rfl) (by assumption) (by omega) (by first | exact (Kept.refl _ w5).drew.alloc _ | exact ((Kept.refl _ w5).drew.alloc _).alloc _) HR1.out HZ1.out HO1.out (by omega) ?_; intro a6 c6 w6 ho6 hk6 hf6))
  all_goals
    have hf8 := HFIN.out w8 a8 c8 ho8 hk8
    have HK58 := Lib.hid hk8
    have HK8 := Lib.hid (HK5.out.trans hk8)
    have HL8 := Lib.hid (RowsAt.below HL5.out hk8.below)
    have c0' := hk8.cell id c0
    have c1' := hk8.cell id c1
    have c2' := hk8.cell id c2
    have c3' := hk8.cell id c3
    have c4' := hk8.cell id c4
    have HRU8 := Lib.hid (rule_firm.kept HRU.out hk8)
    have hlen : ((rs.take n ++ [r]) ++ rs.drop n).length = n + 1 + (rs.length - n) := by simp; omega
    have HDC8 := declared_any ns ((rs.take n ++ [r]) ++ rs.drop n) HCT.out media k hk m w8 _ _ _ (nodes_firm.kept HV.out HK8.out) hf8 (RowsAt.below HMV.out HK8.out.below) (HK8.out.cell id HM.out)
    rw [HTW.out] at HDC8
    replace HDC8 := Lib.hid HDC8
    clear ho8 hk8 hf8 c0 c1 c2 c3 c4 ho7 hk7 ho6 hk6 hf6 hlen EA EAB0 EAB1 EBA0 EBA1
    go_wp2_with fail
    refine HDC8.out.mono ?_
    intro e w9 he9
    obtain ⟨v9, rfl, hk9, hl9⟩ := dc_any he9
    have HSL := Lib.hid (sameLook_any (lookOf D) w9 _ v9 (RowsAt.below HL8.out hk9.below) hl9)
    have HK9 := Lib.hid (HK8.out.trans hk9)
    have HK59 := Lib.hid (HK58.out.trans hk9)
    have HL9 := Lib.hid (RowsAt.below HL8.out hk9.below)
    have HRU9 := Lib.hid (rule_firm.kept HRU8.out hk9)
    have c0 := hk9.cell id c0'
    have c1 := hk9.cell id c1'
    have c2 := hk9.cell id c2'
    have c3 := hk9.cell id c3'
    have c4 := hk9.cell id c4'
    clear he9 hl9 hk9 c0' c1' c2' c3' c4'
    go_upto_region 10 with (go_at_call 8; refine HSL.out.mono ?_; rintro e wa ⟨rfl, hka⟩)
    have HKa := Lib.hid (HK9.out.trans hka)
    have HK5a := Lib.hid (HK59.out.trans hka)
    by_cases he : errOf D = 0
    case neg =>
      have heI : ((errOf D : Int) != 0) = true := by simp; omega
      go_wp2_with fail
      go_ret
      exact ⟨rfl, HKa.out⟩
    have heI : ((errOf D : Int) != 0) = false := by simp; omega
    have heJ : ((errOf D : Int) == 0) = true := by simp; omega
    have q0 := hka.cell id c0
    have q1 := hka.cell id c1
    have q2 := hka.cell id c2
    have q3 := hka.cell id c3
    have q4 := hka.cell id c4
    obtain ⟨⟨⟨xa, xb, xc⟩, ok⟩, HBS⟩ : ∃ x, Hid (mBest ns k r.sels = x) := ⟨_, rfl⟩
    have HCB : Hid (Calls Tryd.prog 9 #[.slice na ns.length ncap, .int .i64 k, .agg #[.string (str r.media), .slice sa r.sels.length sc, .slice da r.decls.length dc, .int .i64 r.lo, .int .i64 r.hi]] wa fun e w' => e = .returned (.tuple #[.agg #[.int .i64 (xa : Int), .int .i64 (xb : Int), .int .i64 (xc : Int)], .bool ok]) ∧ Kept (fun _ => False) wa w') := Lib.hid (by
      have := best_any ns HCC.out.nodes r (.tuple #[.slice sa r.sels.length sc, .slice da r.decls.length dc]) m wa _ k (nodes_firm.kept HV.out HKa.out) (rule_firm.kept HRU9.out hka) HFT.out hk (HKa.out.cell id HM.out)
      rw [HBS.out] at this
      exact this)
    have HL10 := Lib.hid (RowsAt.below HL9.out hka.below)
    clear he hka c0 c1 c2 c3 c4
    go_wp2_with fail
    refine HCB.out.mono ?_
    rintro e w10 ⟨rfl, hk10⟩
    go_upto_region 13 with fail
    obtain ⟨wb, HWB⟩ : ∃ x, Hid (w10.alloc (.cells #[.int .i64 (xa : Int), .int .i64 (xb : Int), .int .i64 (xc : Int)] 39 (0, 0)) = x) := ⟨_, rfl⟩
    have hkb : Kept (fun _ => False) wa wb := by rw [← HWB.out]; exact hk10.alloc _
    have HKb := Lib.hid (HKa.out.trans hkb)
    have HK5b := Lib.hid (HK5a.out.trans hkb)
    have HLb := Lib.hid (RowsAt.below HL10.out hkb.below)
    rw [HWB.out]
    clear q0 q1 q2 q3 q4 hk10 hkb
    cases ok with
    | true =>
      go_wp2_with fail
      go_ret
      exact ⟨rfl, HKb.out⟩
    | false =>
      have hother := HOT.out (by rw [HBS.out])
      have HSD : Hid (∀ (w8 : World) (a8 : Option Addr) (c8 : Nat), w8.ownsRow wb.heap.size 36 5 (.slice a8 (n + (rs.length - (n + 1))) c8) (n + (rs.length - (n + 1))) (List.zipWith ruleCells (rs.take n) va ++ List.zipWith ruleCells (rs.drop (n + 1)) vz).flatten → Kept (fun _ => False) wb w8 →
          Calls Tryd.prog 7 #[.slice na ns.length ncap, .int .i64 k, .slice a8 (n + (rs.length - (n + 1))) c8, .slice ma media.length mcap] w8 fun e w' => ∃ a c, e = .returned (.tuple #[.slice a (lookOf D).length c, .int .i64 (errOf D : Int)]) ∧ Kept (fun _ => False) wb w' ∧ DeclsAt w' (.slice a (lookOf D).length c) (lookOf D)) := Lib.hid fun w8 a8 c8 ho8 kc8 => by
        have hru8 : RulesAt w8 (.slice a8 (n + (rs.length - (n + 1))) c8) (rs.take n ++ rs.drop (n + 1)) := by
          refine rules_made (w5 := w5) (base := wb.heap.size) (N := n + (rs.length - (n + 1))) (vs := va ++ vz) (by simp [HVA.out.1, HVZ.out.1]) (both_app HVA.out.1 HVA.out.2 HVZ.out.2) (HK5b.out.trans kc8) (by simp; omega) ?_
          rw [List.zipWith_append (by simp [HVA.out.1])]
          exact ho8
        have hh := declared_any ns (rs.take n ++ rs.drop (n + 1)) HCO.out media k hk m w8 _ _ _ (nodes_firm.kept HV.out (HKb.out.trans kc8)) hru8 (RowsAt.below HMV.out (HKb.out.trans kc8).below) ((HKb.out.trans kc8).cell id HM.out)
        rw [hother] at hh
        refine hh.mono fun e w' he => ?_
        obtain ⟨v, rfl, h2, h3⟩ := dc_any he
        obtain ⟨a, c, rfl, _⟩ := DeclsAt.form h3
        exact ⟨a, c, rfl, kc8.trans h2, h3⟩
      have HB1 := Lib.hid (RowsAt.below HR1.out HK5b.out.below)
      have HB3 := Lib.hid (RowsAt.below HR3.out HK5b.out.below)
      have i5 : (0 : Int) ≤ (n : Int) + 1 := by omega
      have i6 : (n : Int) + 1 ≤ (rs.length : Int) := by omega
      have i7 : IntKind.i64.wrap ((n : Int) + 1) = (n : Int) + 1 := IntWalk.i64_in _ (by omega)
      have i8 : ((n : Int) + 1).toNat = n + 1 := by omega
      clear hother
      by_cases hcc : rcap = n + 1
      · have HB3n := Lib.hid (RowsAt.below (HR3n.out hcc) HK5b.out.below)
        have hct2 : (rcap = n + 1) = True := by rw [hcc]; exact eq_self _
        clear hcc
        go_upto_region 14 with fail
        go_region_held3 (fun w' => True) (exact trivial)
          (first
            | (refine arm_r3 (w5 := wb) hi0 hz0 rfl hz1 hz2 (by rfl) (.tmp 91) (.tmp 95) (by rfl) _ _ n _ _ (rs.length - (n + 1)) _ _ (by rfl) (by rfl) ho6 hk6 HB3n.out HZ3.out HO3.out (by omega) (by omega) ?_; intro a8 c8 w8 ho8 hk8)
            | (refine arm_r1 (w5 := wb) hi0 hz0 rfl hz1 hz2 (by rfl) (.tmp 87) (.tmp 90) (by rfl) _ _ _ n _ (by rfl) (by rfl) (by first | exact newIn _ _ | assumption) (by first | exact Nat.le_refl _ | (simp; done)) (by first | exact (Kept.refl _ wb).drew.alloc _ | exact (Kept.refl _ wb).alloc _) HB1.out HZ1.out HO1.out (by omega) ?_; intro a6 c6 w6 ho6 hk6 hf6)
            | (go_at_call 7; refine (HSD.out _ _ _ ho8 hk8).mono ?_; rintro e wz ⟨za, zc, rfl, hkz, hlz⟩))
        all_goals
          have HSL2 := Lib.hid (sameLook_any (lookOf D) wz _ _ (RowsAt.below HLb.out hkz.below) hlz)
          have HKz := Lib.hid (HKb.out.trans hkz)
          clear hkz hlz ho8 hk8 ho6 hk6 hf6
          go_wp2_with (go_at_call 8; refine HSL2.out.mono ?_; rintro e wy ⟨rfl, hky⟩)
          go_ret
          exact ⟨rfl, HKz.out.trans hky⟩
      · have hct2 : (rcap = n + 1) = False := by simp; exact hcc
        clear hcc
        go_upto_region 14 with fail
        go_region_held3 (fun w' => True) (exact trivial)
          (first
            | (refine arm_r3 (w5 := wb) hi0 hz0 rfl hz1 hz2 (by rfl) (.tmp 91) (.tmp 95) (by rfl) _ _ n _ _ (rs.length - (n + 1)) _ _ (by rfl) (by rfl) ho6 hk6 HB3.out HZ3.out HO3.out (by omega) (by omega) ?_; intro a8 c8 w8 ho8 hk8)
            | (refine arm_r1 (w5 := wb) hi0 hz0 rfl hz1 hz2 (by rfl) (.tmp 87) (.tmp 90) (by rfl) _ _ _ n _ (by rfl) (by rfl) (by first | exact newIn _ _ | assumption) (by first | exact Nat.le_refl _ | (simp; done)) (by first | exact (Kept.refl _ wb).drew.alloc _ | exact (Kept.refl _ wb).alloc _) HB1.out HZ1.out HO1.out (by omega) ?_; intro a6 c6 w6 ho6 hk6 hf6)
            | (go_at_call 7; refine (HSD.out _ _ _ ho8 hk8).mono ?_; rintro e wz ⟨za, zc, rfl, hkz, hlz⟩))
        all_goals
          have HSL2 := Lib.hid (sameLook_any (lookOf D) wz _ _ (RowsAt.below HLb.out hkz.below) hlz)
          have HKz := Lib.hid (HKb.out.trans hkz)
          clear hkz hlz ho8 hk8 ho6 hk6 hf6
          go_wp2_with (go_at_call 8; refine HSL2.out.mono ?_; rintro e wy ⟨rfl, hky⟩)
          go_ret
          exact ⟨rfl, HKz.out.trans hky⟩
end Go.Proofs.YtplbdlgmjehckabDoor
