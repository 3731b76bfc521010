/-
  inklaw5.CascadeSplit: selector by selector.
-/
import Derived.Test.YtplbdlgmjehckacDoorCaLawMedia
namespace Go.Proofs.YtplbdlgmjehckacDoor
open Go.RowKit
set_option linter.unusedVariables false
set_option linter.unusedSimpArgs false

def splitOne (r : PRule) (s : PSel) : PRule := ⟨r.media, [s], r.decls, 0, 0⟩
def splitZ (r : PRule) : List PRule := r.sels.map (splitOne r)
def keyR (r : PRule) : B × List PSel × List PDecl := (r.media, r.sels, r.decls)
theorem ruleClaims_key {ns : List PNode} {k : Int} {m : List B} : ∀ {rs qs : List PRule}, rs.map keyR = qs.map keyR → ruleClaims ns k m rs = ruleClaims ns k m qs
  | [], [], _ => rfl
  | [], _ :: _, h => by simp at h
  | _ :: _, [], h => by simp at h
  | r :: rs, q :: qs, h => by
    simp only [List.map_cons, List.cons.injEq] at h
    obtain ⟨h1, h2⟩ := h
    have ih := ruleClaims_key (ns := ns) (k := k) (m := m) h2
    simp only [keyR, Prod.mk.injEq] at h1
    obtain ⟨e1, e2, e3⟩ := h1
    have hc : counts r m = counts q m := by unfold counts; rw [e1]
    simp only [ruleClaims, e2, e3, hc, ih]
theorem split_key : ∀ rs : List PRule, (rs.flatMap splitZ).map keyR = (rs.flatMap splitRule).map keyR
  | [] => rfl
  | r :: rs => by
    simp only [List.flatMap_cons, List.map_append, split_key rs]
    congr 1
    unfold splitZ splitRule
    simp [List.map_map, Function.comp_def, keyR, splitOne]
theorem declared_splitZ (ns : List PNode) (k : Int) (rs : List PRule) (m : List B) : cDeclared ns k (rs.flatMap splitZ) m = cDeclared ns k rs m := by
  rw [declared_split (rs := rs)]
  unfold cDeclared cClaims
  rw [ruleClaims_key (split_key rs)]

def nSels (rs : List PRule) : Nat := (rs.map fun r => r.sels.length).sum
theorem split_len : ∀ rs : List PRule, (rs.flatMap splitZ).length = nSels rs
  | [] => rfl
  | r :: rs => by
    have := split_len rs
    simp only [List.flatMap_cons, List.length_append, this]
    unfold nSels splitZ; simp
theorem nd_cons (r : PRule) (rs : List PRule) : nDecls (r :: rs) = r.decls.length + nDecls rs := by unfold nDecls; simp
theorem ns_cons (r : PRule) (rs : List PRule) : nSels (r :: rs) = r.sels.length + nSels rs := by unfold nSels; simp
theorem nd_one (r : PRule) : ∀ ss : List PSel, nDecls (ss.map (splitOne r)) = ss.length * r.decls.length
  | [] => by simp [nDecls]
  | s :: ss => by
    rw [List.map_cons, nd_cons, nd_one r ss, List.length_cons, Nat.succ_mul]
    simp only [splitOne]; omega
theorem nd_app (a b : List PRule) : nDecls (a ++ b) = nDecls a + nDecls b := by unfold nDecls; simp
theorem split_decls : ∀ rs : List PRule, nDecls (rs.flatMap splitZ) ≤ nSels rs * nDecls rs
  | [] => by simp [nDecls]
  | r :: rs => by
    have ih := split_decls rs
    rw [List.flatMap_cons, nd_app, nd_cons, ns_cons]
    unfold splitZ
    rw [nd_one, Nat.add_mul, Nat.mul_add, Nat.mul_add]
    have : nDecls (rs.flatMap fun r => r.sels.map (splitOne r)) ≤ nSels rs * nDecls rs := ih
    omega
theorem mul_bound {a b M : Nat} (h : a + b ≤ 2 * M) : a * b ≤ M * M := by
  rcases Nat.le_total a M with h1 | h1
  · obtain ⟨d, rfl⟩ := Nat.exists_eq_add_of_le h1
    have : a * b ≤ a * (a + 2 * d) := Nat.mul_le_mul_left _ (by omega)
    have e1 : a * (a + 2 * d) = a * a + 2 * (a * d) := by rw [Nat.mul_add, Nat.mul_left_comm]
    have e2 : (a + d) * (a + d) = a * a + 2 * (a * d) + d * d := by rw [Nat.add_mul, Nat.mul_add, Nat.mul_add, Nat.mul_comm d a]; omega
    omega
  · have hb : b ≤ M := by omega
    obtain ⟨d, rfl⟩ := Nat.exists_eq_add_of_le hb
    have : a * b ≤ (b + 2 * d) * b := Nat.mul_le_mul_right _ (by omega)
    have e1 : (b + 2 * d) * b = b * b + 2 * (b * d) := by rw [Nat.add_mul, Nat.mul_assoc, Nat.mul_comm d b]
    have e2 : (b + d) * (b + d) = b * b + 2 * (b * d) + d * d := by rw [Nat.add_mul, Nat.mul_add, Nat.mul_add, Nat.mul_comm d b]; omega
    omega
theorem split_ctx {ns : List PNode} {rs : List PRule} (h : CaCtx ns rs) (hs : nSels rs + nDecls rs ≤ 1048576) : CaCtx ns (rs.flatMap splitZ) := by
  have hmem : ∀ q ∈ rs.flatMap splitZ, ∃ r ∈ rs, ∃ s ∈ r.sels, q = splitOne r s := by
    intro q hq
    obtain ⟨r, hr, hq⟩ := List.mem_flatMap.1 hq
    obtain ⟨s, hs, rfl⟩ := List.mem_map.1 hq
    exact ⟨r, hr, s, hs, rfl⟩
  refine ⟨h.nodes, fun q hq => ?_, fun q hq => ?_, fun q hq => ?_, ?_, ?_⟩
  · obtain ⟨r, hr, s, hs, rfl⟩ := hmem q hq
    refine ⟨by simp [splitOne], fun x hx => ?_⟩
    simp only [splitOne, List.mem_singleton] at hx
    subst hx
    exact (h.tests r hr).2 _ hs
  · obtain ⟨r, hr, s, hs, rfl⟩ := hmem q hq
    exact h.vals r hr
  · obtain ⟨r, hr, s, hs, rfl⟩ := hmem q hq
    exact h.each r hr
  · have := split_decls rs
    have := mul_bound (a := nSels rs) (b := nDecls rs) (M := 524288) (by omega)
    omega
  · rw [split_len]; omega

/-! ### what is built -/
/-- a rule that was built: its selector in a block of its own -/
def RuleNew (w1 wr : World) (u : Value) (q : PRule) : Prop :=
  ∃ sb pv dv s, u = .tuple #[.slice (some ⟨sb, 0, none⟩) 1 1, dv] ∧ wr.heap[sb]? = some (.cells #[pv] 40 (0, 0)) ∧ q.sels = [s] ∧ PartsAt w1 pv s ∧ DeclsAt w1 dv q.decls
theorem RuleNew.reads {w1 wr : World} {u : Value} {q : PRule} (h : RuleNew w1 wr u q) (hk : Kept (fun _ => False) w1 wr) : RuleAt wr u q := by
  obtain ⟨sb, pv, dv, s, rfl, h1, h2, h3, h4⟩ := h
  refine ⟨_, _, rfl, ?_, decls_firm.kept h4 hk⟩
  rw [h2]
  exact nest_one (f := selCells) h1 rfl (parts_firm.kept h3 hk)
theorem RuleNew.kept {w1 wr wx : World} {u : Value} {q : PRule} {S : Nat → Prop} (h : RuleNew w1 wr u q) (hk : Kept S wr wx) (hs : ∀ k o, S k → wr.heap[k]? = some o → ∃ cs fz, o = .cells cs 31 fz) : RuleNew w1 wx u q := by
  obtain ⟨sb, pv, dv, s, h0, h1, h2⟩ := h
  refine ⟨sb, pv, dv, s, h0, hk.heap (fun hS => ?_) h1, h2⟩
  obtain ⟨cs, fz, e⟩ := hs _ _ hS h1
  simp only [Obj.cells.injEq] at e
  exact absurd e.2.1 (by decide)
structure SLp (w1 wr : World) (v : Value) (qs : List PRule) : Prop where
  ex : ∃ vs, vs.length = qs.length ∧ wr.ownsRow w1.heap.size 31 5 v qs.length (List.zipWith ruleCells qs vs).flatten ∧ ∀ (i : Nat) (x : PRule) (u : Value), qs[i]? = some x → vs[i]? = some u → RuleNew w1 wr u x
  kept : Kept (fun _ => False) w1 wr
theorem SLp.by_kept {w1 wr wx : World} {v : Value} {qs : List PRule} (h : SLp w1 wr v qs) (hk : Kept (fun _ => False) wr wx) : SLp w1 wx v qs := by
  obtain ⟨vs, h1, h2, h3⟩ := h.ex
  exact ⟨⟨vs, h1, owns_kept h2 hk (fun _ _ => id), fun i x u hx hu => (h3 i x u hx hu).kept hk (fun _ _ h => h.elim)⟩, h.kept.trans hk⟩
theorem own_tag {w : World} {base size n : Nat} {e : TypeId} {v : Value} {xs : List Value} (h : w.ownsRow base e size v n xs) : ∀ k o, v.ownBlock = some k → w.heap[k]? = some o → ∃ cs fz, o = .cells cs e fz := by
  intro k o hk ho
  rcases h.2 with ⟨rfl, _⟩ | ⟨g, cap, cur, rfl, _, hh, _⟩
  · cases hk
  · cases hk
    rw [hh] at ho
    cases ho
    exact ⟨_, _, rfl⟩
theorem zip_len5' {xs : List PRule} {vs : List Value} : ∀ r ∈ List.zipWith ruleCells xs vs, r.length = 5 := by
  intro r hr
  rw [List.mem_iff_getElem?] at hr
  obtain ⟨i, hi⟩ := hr
  rw [List.getElem?_zipWith] at hi
  split at hi
  · cases hi; rfl
  · cases hi
theorem SLp.reads {w1 wr : World} {v : Value} {qs : List PRule} (h : SLp w1 wr v qs) : RulesAt wr v qs := by
  obtain ⟨vs, h1, h2, h3⟩ := h.ex
  exact ⟨vs, h1, rowsAt_of_owns zip_len5' (by simp [h1]) h2, fun i x u hx hu => (h3 i x u hx hu).reads h.kept⟩
/-- one more: the append's run, and what holds behind it -/
theorem SLp.push {w1 wr : World} {ao : Option Addr} {ac : Nat} {qs : List PRule} (h : SLp w1 wr (.slice ao qs.length ac) qs) (r : PRule) (s : PSel) {pa da : Option Addr} {pn pc dn dc : Nat} (hp : PartsAt w1 (.slice pa pn pc) s) (hd : DeclsAt w1 (.slice da dn dc) r.decls) (hq : qs.length ≤ 2097152) :
    ∃ a' c' w', (Builtin.append_ #[23, 23] 23 #[.slice ao qs.length ac, .slice (some ⟨wr.heap.size + 1, 0, none⟩) 1 1]).run Tryd.prog ((wr.alloc (.cells #[.slice pa pn pc] 40 (0, 0))).alloc (.cells #[.string (str r.media), .slice (some ⟨wr.heap.size, 0, none⟩) 1 1, .slice da dn dc, .int .i64 0, .int .i64 0] 31 (0, 0))) = .ok (.slice a' (qs.length + 1) c') w' ∧ SLp w1 w' (.slice a' (qs.length + 1) c') (qs ++ [splitOne r s]) ∧
      (∀ kk o, ¬ (Value.slice ao qs.length ac).ownBlock = some kk → wr.heap[kk]? = some o → w'.heap[kk]? = some o) ∧ ∀ kk, (Value.slice a' (qs.length + 1) c').ownBlock = some kk → (Value.slice ao qs.length ac).ownBlock = some kk ∨ wr.heap.size ≤ kk := by
  obtain ⟨i0, hi0, hz0, hz1, hz2⟩ := info_parts info_rule
  obtain ⟨wa, HWA⟩ : ∃ x, (wr.alloc (.cells #[.slice pa pn pc] 40 (0, 0))).alloc (.cells #[.string (str r.media), .slice (some ⟨wr.heap.size, 0, none⟩) 1 1, .slice da dn dc, .int .i64 0, .int .i64 0] 31 (0, 0)) = x := ⟨_, rfl⟩
  have hs : wa.heap[wr.heap.size]? = some (.cells #[.slice pa pn pc] 40 (0, 0)) := by rw [← HWA]; exact oldIn (newIn wr _) _
  have hb : wa.heap[wr.heap.size + 1]? = some (.cells #[.string (str r.media), .slice (some ⟨wr.heap.size, 0, none⟩) 1 1, .slice da dn dc, .int .i64 0, .int .i64 0] 31 (0, 0)) := by
    have := newIn (wr.alloc (.cells #[.slice pa pn pc] 40 (0, 0))) (.cells #[.string (str r.media), .slice (some ⟨wr.heap.size, 0, none⟩) 1 1, .slice da dn dc, .int .i64 0, .int .i64 0] 31 (0, 0))
    rw [HWA] at this
    simpa using this
  have hka : Kept (fun _ => False) wr wa := by rw [← HWA]; exact ((Kept.refl _ wr).alloc _).alloc _
  obtain ⟨⟨vs, h1, h2, h3⟩, hk⟩ := h.by_kept hka
  obtain ⟨a', c', w', hr', ho', k', hown'⟩ := append_any (P := Tryd.prog) wa 23 23 w1.heap.size 31 i0 _ 5 80 Tryd.underlying23 hi0 hz0 hz1 hz2 rfl (by omega) ao qs.length ac _ h2 (some ⟨wr.heap.size + 1, 0, none⟩) 1 1 [ruleCells (splitOne r s) (.tuple #[.slice (some ⟨wr.heap.size, 0, none⟩) 1 1, .slice da dn dc])] (rows_fresh hb rfl (by simp [ruleCells]) rfl (by simp [maxLen])) (by simp [ruleCells]) (by simp [ruleCells, vFst, vSnd, Value.oneCell']) (by unfold maxLen; omega) (by omega) hk.size
  rw [HWA]
  refine ⟨a', c', w', hr', ⟨⟨vs ++ [.tuple #[.slice (some ⟨wr.heap.size, 0, none⟩) 1 1, .slice da dn dc]], by simp [h1], ?_, fun i x u hx hu => ?_⟩, hk.trans' k' (fun i hi hx => ?_)⟩, fun kk o hn hh => k'.heap hn (hka.heap id hh), fun kk hkk => ?_⟩
  · rw [List.zipWith_append h1.symm, List.length_append, List.flatten_append]
    exact ho'
  · by_cases hi : i < qs.length
    · rw [List.getElem?_append_left hi] at hx
      rw [List.getElem?_append_left (by omega)] at hu
      exact (h3 i x u hx hu).kept k' (own_tag h2)
    · rw [List.getElem?_append_right (by omega)] at hx
      rw [List.getElem?_append_right (by omega), h1] at hu
      have h0 : i - qs.length = 0 := by
        have := (List.getElem?_eq_some_iff.1 hx).1
        simp at this; omega
      rw [h0] at hx hu
      cases hx; cases hu
      refine RuleNew.kept (wr := wa) ⟨_, _, _, s, rfl, hs, rfl, hp, hd⟩ k' (own_tag h2)
  · have := (h2.lt i hx).1; omega
  · rcases hown' with h | ⟨g, h, hg⟩
    · rw [h] at hkk; exact .inl hkk
    · rw [h] at hkk; cases hkk
      right; have := hka.size; omega

theorem sels_step {rs : List PRule} {i : Nat} {r : PRule} (h : rs[i]? = some r) : nSels (rs.take i) + r.sels.length ≤ nSels rs ∧ (rs.take (i + 1)).flatMap splitZ = (rs.take i).flatMap splitZ ++ splitZ r := by
  constructor
  · have e : nSels rs = nSels (rs.take i) + nSels (rs.drop i) := by
      unfold nSels
      rw [← List.sum_append, ← List.map_append, List.take_append_drop]
    have hd : rs.drop i = r :: rs.drop (i + 1) := by
      rw [List.drop_eq_getElem_cons (List.getElem?_eq_some_iff.1 h).1]; congr 1; exact (List.getElem?_eq_some_iff.1 h).2
    rw [e, hd, ns_cons]; omega
  · rw [List.take_add_one, h, Option.toList_some, List.flatMap_append]; simp
set_option maxRecDepth 100000 in
set_option maxHeartbeats 6400000 in
theorem split5_any (ns : List PNode) (rs : List PRule) (hc : CaCtx ns rs) (hsd : nSels rs + nDecls rs ≤ 1048576) (media : List B) (k : Int) (hk : -9223372036854775808 ≤ k ∧ k ≤ 9223372036854775807) (m : Int) (w : World) (v rv mv : Value) (hv : NodesAt w v ns) (hr : RulesAt w rv rs) (hmv : StrsAt w mv media) (hm : w.cell? ⟨0, 0, none⟩ = some (.int .i64 m)) :
    Calls Tryd.prog 4 #[v, .int .i64 k, rv, mv] w fun e w' => e = .returned (.bool true) ∧ Kept (fun _ => False) w w' := by
  obtain ⟨na, ncap, rfl, hnc1, hnc2⟩ := hv.form
  obtain ⟨ra, rcap, rfl, hrc1, hrc2⟩ := NestAt.form hr
  obtain ⟨ma, mcap, rfl, hmc1, hmc2⟩ := StrsAt.form hmv
  unfold maxLen at hnc2 hrc2 hmc2
  have HAL := Lib.hid (alive5_any w m hm)
  have hfr := hc.few
  have hns : nSels rs ≤ 1048576 := by omega
  have HCS := Lib.hid (split_ctx hc hsd)
  have HCC := Lib.hid hc
  have HV := Lib.hid hv
  have HRS := Lib.hid hr
  have HMV := Lib.hid hmv
  have HM := Lib.hid hm
  clear hc hv hr hmv hm hsd
  go_enter Tryd.func4, Tryd.ntmps4
  go_wp2_with fail
  refine HAL.out.mono ?_
  rintro e w1 ⟨rfl, hk1⟩
  have HK1 := Lib.hid hk1
  clear hk1
  go_wp2_with fail
  go_loopw [9, 22] (fun v c wr => ∃ i : Nat, i ≤ rs.length ∧ c = .int .i64 (i : Int) ∧ Hid (SLp w1 wr v ((rs.take i).flatMap splitZ))) (fun _ c _ => rs.length - (intOf c).toNat)
  case atStart => exact ⟨0, by omega, rfl, Lib.hid ⟨⟨[], rfl, World.ownsRow_nil _ _ _ _, by simp⟩, Kept.refl _ _⟩⟩
  case round =>
    obtain ⟨i, hi, rfl, HL⟩ := hrel
    obtain ⟨wr0, hwr0⟩ : ∃ x, x = wr := ⟨_, rfl⟩
    subst hwr0
    obtain ⟨vs0, hvs1, hvs2, hvs3⟩ := HL.out.ex
    obtain ⟨vo, vc, rfl⟩ := owns_form hvs2
    clear hvs1 hvs2 hvs3 vs0
    by_cases hlt : i < rs.length
    · have hx := List.getElem?_eq_getElem hlt
      generalize hgx : rs[i] = r at hx
      clear hgx
      obtain ⟨b, o, u, rfl, hcs, hru⟩ := NestAt.at (rules_firm.kept HRS.out (HK1.out.trans HL.out.kept)) hx
      obtain ⟨u1, hcs1, hru1⟩ : ∃ u1, (∀ j c, (ruleCells r u1)[j]? = some c → w1.cell? ⟨b, o + i * 5 + j, none⟩ = some c) ∧ RuleAt w1 u1 r := by
        obtain ⟨b', o', u1, he, h1, h2⟩ := NestAt.at (rules_firm.kept HRS.out HK1.out) hx
        cases he
        exact ⟨u1, h1, h2⟩
      clear hcs hru
      obtain ⟨sv, dv, rfl, hss, hds⟩ := hru1
      obtain ⟨sa, sc, rfl, hsc1, hsc2⟩ := NestAt.form hss
      obtain ⟨da, dc, rfl, hdc1, hdc2⟩ := DeclsAt.form hds
      unfold maxLen at hsc2 hdc2
      have c0 : wr0.cell? ⟨b, o + i * 5, none⟩ = some (.string (str r.media)) := HL.out.kept.cell id (hcs1 0 _ rfl)
      have c1 : wr0.cell? ⟨b, o + i * 5 + 1, none⟩ = some (.slice sa r.sels.length sc) := HL.out.kept.cell id (hcs1 1 _ rfl)
      have c2 : wr0.cell? ⟨b, o + i * 5 + 2, none⟩ = some (.slice da r.decls.length dc) := HL.out.kept.cell id (hcs1 2 _ rfl)
      have c3 : wr0.cell? ⟨b, o + i * 5 + 3, none⟩ = some (.int .i64 r.lo) := HL.out.kept.cell id (hcs1 3 _ rfl)
      have c4 : wr0.cell? ⟨b, o + i * 5 + 4, none⟩ = some (.int .i64 r.hi) := HL.out.kept.cell id (hcs1 4 _ rfl)
      obtain ⟨hs1, hs2⟩ := sels_step hx
      have hql := split_len (rs.take i)
      have HS2 := Lib.hid hs2
      have HQL := Lib.hid hql
      have HSS := Lib.hid hss
      have HDS := Lib.hid hds
      have hqb : ((rs.take i).flatMap splitZ).length + r.sels.length ≤ 1048576 := by rw [hql]; omega
      generalize (rs.take i).flatMap splitZ = q0 at *
      clear hcs1 hss hds hx hs1 hs2 hql
      go_upto_region 7 with fail
      obtain ⟨wa, HWA⟩ : ∃ x, Hid (wr0.alloc (.cells #[.string (str r.media), (.slice sa r.sels.length sc), (.slice da r.decls.length dc), .int .i64 r.lo, .int .i64 r.hi] 31 (0, 0)) = x) := ⟨_, rfl⟩
      have hba : wa.heap[wr0.heap.size]? = some (.cells #[.string (str r.media), (.slice sa r.sels.length sc), (.slice da r.decls.length dc), .int .i64 r.lo, .int .i64 r.hi] 31 (0, 0)) := by rw [← HWA.out]; exact newIn wr0 _
      have HLA : Hid (SLp w1 wa (.slice vo q0.length vc) q0) := Lib.hid (by rw [← HWA.out]; exact HL.out.by_kept ((Kept.refl _ wr0).alloc _))
      have hown : Hid (∀ kk, (Value.slice vo q0.length vc).ownBlock = some kk → kk < wr0.heap.size) := Lib.hid (fun kk hkk => by
        obtain ⟨vs, _, h2, _⟩ := HL.out.ex
        exact (h2.lt kk hkk).2)
      have b1 : wa.cell? ⟨wr0.heap.size, 1, none⟩ = some (.slice sa r.sels.length sc) := cellIn hba 1 rfl
      rw [HWA.out]
      have HBA := Lib.hid hba
      clear c0 c1 c2 c3 c4 hba
      go_wp2_with fail
      go_loopw [9, 29] (fun v c wx => ∃ j : Nat, j ≤ r.sels.length ∧ c = .int .i64 (j : Int) ∧ Hid (SLp w1 wx v (q0 ++ (r.sels.take j).map (splitOne r))) ∧ Hid (wx.heap[wr0.heap.size]? = some (.cells #[.string (str r.media), (.slice sa r.sels.length sc), (.slice da r.decls.length dc), .int .i64 r.lo, .int .i64 r.hi] 31 (0, 0))) ∧ Hid (∀ kk, v.ownBlock = some kk → kk ≠ wr0.heap.size)) (fun _ c _ => r.sels.length - (intOf c).toNat)
      case atStart => exact ⟨0, by omega, rfl, Lib.hid (by simpa using HLA.out), HBA, Lib.hid (fun kk h => by have := hown.out kk h; omega)⟩
      case round =>
        obtain ⟨j, hj, rfl, HI, HBX, HNE⟩ := hrel
        obtain ⟨wr1, hwr1⟩ : ∃ x, x = wr := ⟨_, rfl⟩
        subst hwr1
        obtain ⟨vs0, hvs1, hvs2, hvs3⟩ := HI.out.ex
        obtain ⟨ao, ac, rfl⟩ := owns_form hvs2
        clear hvs1 hvs2 hvs3 vs0
        by_cases hjlt : j < r.sels.length
        · have hy := List.getElem?_eq_getElem hjlt
          generalize hgy : r.sels[j] = s at hy
          clear hgy
          obtain ⟨sb, so, pv, rfl, hsc, hpp⟩ := NestAt.at HSS.out hy
          obtain ⟨pa, pc, rfl, hpc1, hpc2⟩ := NestAt.form hpp
          unfold maxLen at hpc2
          have t0 : wr1.cell? ⟨sb, so + j, none⟩ = some (.slice pa (List.length s) pc) := HI.out.kept.cell id (by have := hsc 0 _ rfl; simpa using this)
          have b0 : wr1.cell? ⟨wr0.heap.size, 0, none⟩ = some (.string (str r.media)) := cellIn HBX.out 0 rfl
          have b2 : wr1.cell? ⟨wr0.heap.size, 2, none⟩ = some (.slice da r.decls.length dc) := cellIn HBX.out 2 rfl
          have b2' := fun o => cell_alloc b2 o
          have hnx : Hid (q0 ++ (r.sels.take (j + 1)).map (splitOne r) = (q0 ++ (r.sels.take j).map (splitOne r)) ++ [splitOne r s]) := Lib.hid (by rw [List.take_add_one, hy, Option.toList_some]; simp)
          have hle : (q0 ++ (r.sels.take j).map (splitOne r)).length ≤ 1048576 := by simp; omega
          generalize q0 ++ (r.sels.take j).map (splitOne r) = q1 at *
          obtain ⟨a', c', w', hr', hl', hheap, hown2⟩ := HI.out.push r s hpp HDS.out (by omega)
          have HR' := Lib.hid hr'
          have HL' := Lib.hid hl'
          have HBX' : Hid (w'.heap[wr0.heap.size]? = some (.cells #[.string (str r.media), (.slice (some ⟨sb, so, none⟩) r.sels.length sc), (.slice da r.decls.length dc), .int .i64 r.lo, .int .i64 r.hi] 31 (0, 0))) := Lib.hid (hheap _ _ (fun h => HNE.out _ h rfl) HBX.out)
          have HNE' : Hid (∀ kk, (Value.slice a' (q1.length + 1) c').ownBlock = some kk → kk ≠ wr0.heap.size) := Lib.hid (fun kk hkk => by
            rcases hown2 kk hkk with h | h
            · exact HNE.out kk h
            · have := ltIn HBX.out; omega)
          clear hsc hpp hy hr' hl' hheap hown2
          go_wp2_with (at_builtin; refine wpList_append_eq (by rfl) _ _ _ rfl _ _ _ rfl rfl _ HR'.out ?_)
          go_roundw
          case measure => simp [intOf]; omega
          case rel => exact ⟨j + 1, by omega, by go_num, Lib.hid (by rw [hnx.out]; exact HL'.out), HBX', HNE'⟩
        · obtain rfl : j = r.sels.length := by omega
          have hfin : Hid (SLp w1 wr1 (.slice ao (q0 ++ (r.sels.take r.sels.length).map (splitOne r)).length ac) ((rs.take (i + 1)).flatMap splitZ)) := Lib.hid (by
            rw [HS2.out]
            have h1 := HI.out
            rw [List.take_length] at h1 ⊢
            exact h1)
          go_wp2_with fail
          go_roundw
          case measure => simp [intOf]; omega
          case rel => exact ⟨i + 1, by omega, by go_num, hfin⟩
    · obtain rfl : i = rs.length := by omega
      have HL2 : Hid (SLp w1 wr0 (.slice vo ((rs.take rs.length).flatMap splitZ).length vc) (rs.flatMap splitZ)) := Lib.hid (by have := HL.out; rw [List.take_length] at this ⊢; exact this)
      generalize ((rs.take rs.length).flatMap splitZ).length = N at *
      have hK2 := HK1.out.trans HL2.out.kept
      have HK2 := Lib.hid hK2
      obtain ⟨D, HD⟩ : ∃ x, Hid (cDeclared ns k rs media = x) := ⟨_, rfl⟩
      have HDC := declared_any ns rs HCC.out media k hk m wr0 _ _ _ (nodes_firm.kept HV.out HK2.out) (rules_firm.kept HRS.out HK2.out) (RowsAt.below HMV.out HK2.out.below) (HK2.out.cell id HM.out)
      rw [HD.out] at HDC
      replace HDC := Lib.hid HDC
      have HRZ := Lib.hid HL2.out.reads
      clear hK2
      go_wp2_with fail
      refine HDC.out.mono ?_
      intro e w2 he2
      obtain ⟨v2, rfl, hk2, hl2⟩ := dc_any he2
      obtain ⟨l2a, l2c, rfl, _, _⟩ := DeclsAt.form hl2
      have HK3 := Lib.hid (HK2.out.trans hk2)
      have HL3 := Lib.hid hl2
      have HDC6 := declared_any ns (rs.flatMap splitZ) HCS.out media k hk m w2 _ _ _ (nodes_firm.kept HV.out HK3.out) (rules_firm.kept HRZ.out hk2) (RowsAt.below HMV.out HK3.out.below) (HK3.out.cell id HM.out)
      rw [declared_splitZ, HD.out] at HDC6
      replace HDC6 := Lib.hid HDC6
      clear hl2 hk2 he2
      go_wp2_with fail
      refine HDC6.out.mono ?_
      intro e w7 he7
      obtain ⟨v7, rfl, hk7, hl7⟩ := dc_any he7
      have HSL := sameLook_any (lookOf D) w7 _ v7 (RowsAt.below HL3.out hk7.below) hl7
      replace HSL := Lib.hid HSL
      have HK7 := Lib.hid (HK3.out.trans hk7)
      clear hl7 hk7 he7
      go_wp2_with (go_at_call 7; refine HSL.out.mono ?_; rintro e w8 ⟨rfl, hk8⟩)
      go_ret
      exact ⟨rfl, HK7.out.trans hk8⟩
end Go.Proofs.YtplbdlgmjehckacDoor
