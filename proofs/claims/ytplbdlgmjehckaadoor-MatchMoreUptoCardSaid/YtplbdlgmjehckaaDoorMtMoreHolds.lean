/-
  inklaw3.MatchMore: what is asked of the law, and its card, where what it reads is of bulk at most 1048576: one test more means no more
-/
import Derived.Test.YtplbdlgmjehckaaDoorCdFrame
import Derived.Test.YtplbdlgmjehckaaDoorMtLawMore
import Derived.Test.YtplbdlgmjehckaaDoorMtOpen
import Derived.Carry
namespace Go.Proofs.YtplbdlgmjehckaaDoor
open Go.RowKit Go.ChangeShapes Go.WideShapes Go.ChangeAt Go.ChangeMaps
set_option linter.unusedVariables false
namespace matchMore

set_option maxRecDepth 20000 in
theorem contract (H : Type) (enc : TypeId × Value → H) (W : World) (base : Nat) (args : Array Value) (ds gs : List (DataW H)) (before : List MemPlace)
    (hval : ∀ (j : Nat) t v, Tryd.f6.params[j]? = some t → args[j]? = some v → Value.okWide Tryd.prog W .any base t v)
    (hW : DataW.Whole enc Tryd.prog Tryd.f6.params.toList Rows.matchMoreSpec.vars false W args.toList ds gs before) (hk : Rows.uptoSmall H (ds ++ gs) = true) (hsh : W.ShapedOpen Tryd.prog) :
    Calls Tryd.prog 6 args W fun e W' => ∃ v, e = .returned v ∧ Rows.matchMoreSpec.post enc Tryd.prog Tryd.f6 false true false false W args v W' := by
  have hW' := hW
  have hbulk := bulk_bound hk
  obtain ⟨m, hm⟩ := maxLen_room W hsh
  obtain ⟨p, q, hA0, hV, rfl, hfz, hnd⟩ := hW
  have hA : DataW.TrodAll enc Tryd.prog W 0 (fun _ => true) true Tryd.f6.params.toList args.toList ds p := hA0
  rw [Tryd.params6] at hA hval
  obtain ⟨rfl, rfl⟩ := trodVars_none hV
  obtain ⟨v0, vs0, d0, ds0, p0, q0, hargs, rfl, rfl, h0, hA1⟩ := trodAll_cons hA
  obtain ⟨v1, v2, v3, v4, d1, d2, d3, d4, p1, p2, p3, p4, hargs2, rfl, rfl, h1, h2, h3, h4⟩ := trodAll_four (args := vs0.toArray) (by simpa using hA1)
  have hvs : vs0 = [v1, v2, v3, v4] := by have := congrArg Array.toList hargs2; simpa using this
  subst hvs
  have hargs3 : args = #[v0, v1, v2, v3, v4] := by have := congrArg List.toArray hargs; simpa using this
  subst hargs3
  obtain ⟨ns, hns, hfit, hsum⟩ := arg_nodes (hval 0 38 v0 rfl rfl) h0
  obtain ⟨k, rfl, rfl, _, wk⟩ := open_int Tryd.underlying3 (hval 1 3 v1 rfl rfl) h1
  obtain ⟨s, hs, hj, hsum2⟩ := arg_sel (hval 2 40 v2 rfl rfl) h2
  obtain ⟨i, rfl, rfl, _, wi⟩ := open_int Tryd.underlying3 (hval 3 3 v3 rfl rfl) h3
  obtain ⟨t, rfl, _, _⟩ := arg_test (hval 4 42 v4 rfl rfl) h4
  have hb2 : bulk d0 + bulk d2 + 1 ≤ 1048576 := by
    have := bulk_pos d4
    rw [bulk_all] at hbulk
    simp at hbulk
    omega
  have hctx : MtCtx ns := ctx_of (by omega) hfit
  have hsl := sum_len wtPart part_low s
  have hsw : (s.map wtPart).sum ≤ wtSel s := by unfold wtSel; omega
  have hnt := nTests_wt s
  refine (matchMore_any ns hctx s t m W v0 v2 k i hns hs (by omega) (by omega) (fun p hp => by
    have g1 := sum_mem wtPart hp
    have g2 := sum_len wtTest test_low p.tests
    have g3 : (p.tests.map wtTest).sum ≤ wtPart p := by unfold wtPart; omega
    omega) (wf_i64 wk) (wf_i64 wi) hm).mono fun e W' ⟨he, hb⟩ => ?_
  subst he
  exact ⟨_, rfl, law_post laidOut Tryd.underlying4 rfl (by rw [Tryd.params6]; decide +kernel) rfl hW' rfl rfl rfl hb⟩

theorem laid_met (os : Os) : laidMet Tryd.prog Rows.matchMoreUptoRow.laid ((laidWorld os).forCall (fun _ _ => 0) ⟨#[], #[.slice none 0 0, .int .i64 0, .slice none 0 0, .int .i64 0, .agg #[.int .i64 0, .string ⟨#[]⟩, .string ⟨#[]⟩]], []⟩).memory :=
  laidMet_of_run' 8 (by kernel_rfl) (by kernel_rfl)
theorem reads (os : Os) {H : Type} (enc : TypeId × Value → H) : ∃ places, DataW.whole enc Tryd.prog ((laidWorld os).forCall (fun _ _ => 0) ⟨#[], #[.slice none 0 0, .int .i64 0, .slice none 0 0, .int .i64 0, .agg #[.int .i64 0, .string ⟨#[]⟩, .string ⟨#[]⟩]], []⟩).memory Tryd.f6.params.toList Rows.matchMoreSpec.vars false (#[.slice none 0 0, .int .i64 0, .slice none 0 0, .int .i64 0, .agg #[.int .i64 0, .string ⟨#[]⟩, .string ⟨#[]⟩]] : Array Value).toList 8 = some ([.nil, .lit (.int .i64 0), .nil, .lit (.int .i64 0), .agg [.lit (.int .i64 0), .lit (.string []), .lit (.string [])]], [], places) :=
  ⟨[], by kernel_rfl⟩

set_option maxRecDepth 100000 in
theorem lifted (os : Os) (started : os.Started) (H : Type) (enc : TypeId × Value → H) (F : Stop.Interp) :
    ReturnsInHanded {} Tryd.checked os 6 .any ((Rows.OpenSpec.upto Rows.matchMoreSpec).preRow enc Tryd.prog Tryd.f6 Rows.matchMoreUptoRow.domain false Rows.matchMoreUptoRow.laid) (((Rows.OpenSpec.upto Rows.matchMoreSpec).at F).post enc Tryd.prog Tryd.f6 false true false false) := by
  obtain ⟨places, hx⟩ := reads os enc
  refine returnsInHanded_of_row (C := Tryd.checked) (s := Rows.OpenSpec.upto Rows.matchMoreSpec) own started (by kernel_rfl) Tryd.func6
    (witness_row_at (enc := enc) (C := Tryd.checked) false (laidWorld os) #[.slice none 0 0, .int .i64 0, .slice none 0 0, .int .i64 0, .agg #[.int .i64 0, .string ⟨#[]⟩, .string ⟨#[]⟩]] rfl (by kernel_rfl) (by kernel_rfl) (by kernel_rfl)
      (OpenSpec.preRow_of_cond 8 hx (by kernel_rfl) (fun k hk => by cases hk; kernel_rfl) (by kernel_rfl) (laid_met os))) ?_
  intro W base args ds gs before hval hW _ hcond _ hL hsh _
  exact contract H enc W base args ds gs before hval hW (hcond _ rfl) hsh

theorem said : Rows.MatchMoreUptoSaid :=
  OpenClaim.holds_of_cond 6 Tryd.f6 rfl rfl rfl rfl rfl rfl rfl ⟨rfl, rfl, rfl, rfl, rfl⟩ rfl rfl rfl rfl rfl (by kernel_rfl) Tryd.func6 (by kernel_rfl)
    (of_decide_eq_true (by kernel_rfl)) (by unfold Func.isWrapper; first | (rw [if_pos (by decide +kernel)]; kernel_rfl) | (rw [if_neg (by decide +kernel)]; exact ⟨rfl, rfl⟩))
    (fun os started H enc _ F => by rw [OpenClaim.pre_eq_preRow]; exact lifted os started H enc F)

theorem plain (f : FuncId) (fn : Func) (hf : Tryd.pinned.checked.prog.funcNamed "inkwell/inklaw3.MatchMore" = some f) (hfn : Tryd.pinned.checked.prog.funcs[f]? = some fn) :
    false = Tryd.pinned.checked.prog.looks [] ∧ ∀ (j : Nat) t, fn.params[j]? = some t → Tryd.pinned.checked.prog.wantsStandIn t = false := by
  obtain rfl : f = 6 := Option.some.inj ((show Tryd.prog.funcNamed "inkwell/inklaw3.MatchMore" = some 6 by kernel_rfl).symm.trans hf) |>.symm
  obtain rfl : fn = Tryd.f6 := (Option.some.inj (Tryd.func6.symm.trans hfn)).symm
  refine ⟨by kernel_rfl, fun j t ht => ?_⟩
  have hall : (Tryd.f6.params.toList.all fun u => !Tryd.prog.wantsStandIn u) = true := by kernel_rfl
  have hm : t ∈ Tryd.f6.params.toList := by simpa using Array.mem_of_getElem? ht
  exact (show Tryd.prog.wantsStandIn t = false by simpa using List.all_eq_true.1 hall t hm)
end matchMore

theorem matchMore_holds : Rows.MatchMoreUptoCardSaid :=
  Claim7.holds_tied_plain_at .later [] _ _ _ _ matchMore.said (fun _ h => by cases h) (by kernel_rfl) (fun _ h => by cases h) matchMoreUpto_row_tie rfl ⟨rfl, rfl⟩ (by kernel_rfl) rfl matchMore.plain (by kernel_rfl)
#print axioms matchMore_holds
end Go.Proofs.YtplbdlgmjehckaaDoor
