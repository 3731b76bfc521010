/-
  inklaw5.CascadeSplit: what is asked of the law, and its card, where what it reads is of bulk at most 1048576: selector by selector
-/
import Derived.Test.YtplbdlgmjehckacDoorCdFrame
import Derived.Test.YtplbdlgmjehckacDoorCaLawSplit
namespace Go.Proofs.YtplbdlgmjehckacDoor
open Go.RowKit Go.ChangeShapes Go.WideShapes Go.ChangeAt Go.ChangeMaps
set_option linter.unusedVariables false
namespace cascadeSplit

set_option maxRecDepth 20000 in
theorem contract (H : Type) (enc : TypeId × Value → H) (W : World) (base : Nat) (args : Array Value) (ds gs : List (DataW H)) (before : List MemPlace)
    (hval : ∀ (j : Nat) t v, Tryd.f4.params[j]? = some t → args[j]? = some v → Value.okWide Tryd.prog W .any base t v)
    (hW : DataW.Whole enc Tryd.prog Tryd.f4.params.toList Rows.cascadeSplitSpec.vars false W args.toList ds gs before) (hk : Rows.uptoSmall H (ds ++ gs) = true) (hsh : W.ShapedOpen Tryd.prog) :
    Calls Tryd.prog 4 args W fun e W' => ∃ v, e = .returned v ∧ Rows.cascadeSplitSpec.post enc Tryd.prog Tryd.f4 false true false false W args v W' := by
  have hW' := hW
  have hbulk := bulk_bound hk
  obtain ⟨m, hm⟩ := maxLen_room W hsh
  obtain ⟨p, q, hA0, hV, rfl, hfz, hnd⟩ := hW
  have hA : DataW.TrodAll enc Tryd.prog W 0 (fun _ => true) true Tryd.f4.params.toList args.toList ds p := hA0
  rw [Tryd.params4] at hA hval
  obtain ⟨rfl, rfl⟩ := trodVars_none hV
  obtain ⟨v0, v1, v2, v3, d0, d1, d2, d3, p0, p1, p2, p3, rfl, rfl, rfl, h0, h1, h2, h3⟩ := trodAll_four hA
  obtain ⟨ns, hns, hfit, hsum⟩ := arg_nodes (hval 0 22 v0 rfl rfl) h0
  obtain ⟨k, rfl, rfl, _, wk⟩ := open_int Tryd.underlying3 (hval 1 3 v1 rfl rfl) h1
  obtain ⟨rs, hrs, hsum2⟩ := arg_rules (hval 2 23 v2 rfl rfl) h2
  obtain ⟨ms, hms, _⟩ := arg_strs (hval 3 24 v3 rfl rfl) h3
  have hb2 : bulk d0 + bulk d2 ≤ 1048576 := by
    rw [bulk_all] at hbulk
    simp at hbulk
    omega
  have hctx : CaCtx ns rs := cactx_of (by omega) hfit (by omega)
  have hsd : nSels rs + nDecls rs ≤ (rs.map wtRule).sum := by
    have h9 := sum_map_le (fun r : PRule => r.sels.length + r.decls.length) wtRule (fun r => by
      have := sum_len wtDecl decl_low1 r.decls
      have := sum_len wtSel sel_low r.sels
      unfold wtRule; omega) rs
    have : nSels rs + nDecls rs = (rs.map fun r : PRule => r.sels.length + r.decls.length).sum := by
      clear h9 hctx hrs hsum2
      induction rs with
      | nil => rfl
      | cons r rs ih => rw [ns_cons, nd_cons, List.map_cons, List.sum_cons, ← ih]; omega
    omega
  refine (split5_any ns rs hctx (by omega) ms k (wf_i64 wk) m W v0 v2 v3 hns hrs hms hm).mono fun e W' ⟨he, hkb⟩ => ?_
  have hb := hkb.below
  subst he
  exact ⟨_, rfl, law_post laidOut Tryd.underlying4 rfl (by rw [Tryd.params4]; decide +kernel) rfl hW' rfl rfl rfl hb⟩

theorem laid_met (os : Os) : laidMet Tryd.prog Rows.cascadeSplitUptoRow.laid ((laidWorld os).forCall (fun _ _ => 0) ⟨#[], #[.slice none 0 0, .int .i64 0, .slice none 0 0, .slice none 0 0], []⟩).memory :=
  laidMet_of_run' 8 (by kernel_rfl) (by kernel_rfl)
theorem reads (os : Os) {H : Type} (enc : TypeId × Value → H) : ∃ places, DataW.whole enc Tryd.prog ((laidWorld os).forCall (fun _ _ => 0) ⟨#[], #[.slice none 0 0, .int .i64 0, .slice none 0 0, .slice none 0 0], []⟩).memory Tryd.f4.params.toList Rows.cascadeSplitSpec.vars false (#[.slice none 0 0, .int .i64 0, .slice none 0 0, .slice none 0 0] : Array Value).toList 8 = some ([.nil, .lit (.int .i64 0), .nil, .nil], [], places) :=
  ⟨[], by kernel_rfl⟩

set_option maxRecDepth 100000 in
theorem lifted (os : Os) (started : os.Started) (H : Type) (enc : TypeId × Value → H) (F : Stop.Interp) :
    ReturnsInHanded {} Tryd.checked os 4 .any ((Rows.OpenSpec.upto Rows.cascadeSplitSpec).preRow enc Tryd.prog Tryd.f4 Rows.cascadeSplitUptoRow.domain false Rows.cascadeSplitUptoRow.laid) (((Rows.OpenSpec.upto Rows.cascadeSplitSpec).at F).post enc Tryd.prog Tryd.f4 false true false false) := by
  obtain ⟨places, hx⟩ := reads os enc
  refine returnsInHanded_of_row (C := Tryd.checked) (s := Rows.OpenSpec.upto Rows.cascadeSplitSpec) own started (by kernel_rfl) Tryd.func4
    (witness_row_at (enc := enc) (C := Tryd.checked) false (laidWorld os) #[.slice none 0 0, .int .i64 0, .slice none 0 0, .slice none 0 0] rfl (by kernel_rfl) (by kernel_rfl) (by kernel_rfl)
      (OpenSpec.preRow_of_cond 8 hx (by kernel_rfl) (fun k hk => by cases hk; kernel_rfl) (by kernel_rfl) (laid_met os))) ?_
  intro W base args ds gs before hval hW _ hcond _ hL hsh _
  exact contract H enc W base args ds gs before hval hW (hcond _ rfl) hsh

theorem said : Rows.CascadeSplitUptoSaid :=
  OpenClaim.holds_of_cond 4 Tryd.f4 rfl rfl rfl rfl rfl rfl rfl ⟨rfl, rfl, rfl, rfl, rfl⟩ rfl rfl rfl rfl rfl (by kernel_rfl) Tryd.func4 (by kernel_rfl)
    (of_decide_eq_true (by kernel_rfl)) (by unfold Func.isWrapper; first | (rw [if_pos (by decide +kernel)]; kernel_rfl) | (rw [if_neg (by decide +kernel)]; exact ⟨rfl, rfl⟩))
    (fun os started H enc _ F => by rw [OpenClaim.pre_eq_preRow]; exact lifted os started H enc F)

theorem plain (f : FuncId) (fn : Func) (hf : Tryd.pinned.checked.prog.funcNamed "inkwell/inklaw5.CascadeSplit" = some f) (hfn : Tryd.pinned.checked.prog.funcs[f]? = some fn) :
    true = Tryd.pinned.checked.prog.looks [] ∧ ∀ (j : Nat) t, fn.params[j]? = some t → Tryd.pinned.checked.prog.wantsStandIn t = false := by
  obtain rfl : f = 4 := Option.some.inj ((show Tryd.prog.funcNamed "inkwell/inklaw5.CascadeSplit" = some 4 by kernel_rfl).symm.trans hf) |>.symm
  obtain rfl : fn = Tryd.f4 := (Option.some.inj (Tryd.func4.symm.trans hfn)).symm
  refine ⟨by kernel_rfl, fun j t ht => ?_⟩
  have hall : (Tryd.f4.params.toList.all fun u => !Tryd.prog.wantsStandIn u) = true := by kernel_rfl
  have hm : t ∈ Tryd.f4.params.toList := by simpa using Array.mem_of_getElem? ht
  exact (show Tryd.prog.wantsStandIn t = false by simpa using List.all_eq_true.1 hall t hm)
end cascadeSplit

theorem cascadeSplit_holds : Rows.CascadeSplitUptoCardSaid :=
  Claim7.holds_tied_plain_at .later [] _ _ _ _ cascadeSplit.said (fun _ h => by cases h) (by kernel_rfl) (fun _ h => by cases h) cascadeSplitUpto_row_tie rfl ⟨rfl, rfl⟩ (by kernel_rfl) rfl cascadeSplit.plain (by kernel_rfl)
#print axioms cascadeSplit_holds
end Go.Proofs.YtplbdlgmjehckacDoor
