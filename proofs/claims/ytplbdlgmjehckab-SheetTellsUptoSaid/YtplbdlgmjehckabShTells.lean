/-
  inklaw2.SheetTells: the law.
-/
import Derived.Test.YtplbdlgmjehckabRfSheet
import Derived.Test.YtplbdlgmjehckabRfPrint
import Derived.Test.YtplbdlgmjehckabShParse1
import Derived.Test.YtplbdlgmjehckabShPrint
import Derived.Test.YtplbdlgmjehckabShSame
import Derived.Test.YtplbdlgmjehckabSameD
namespace Go.Proofs.Ytplbdlgmjehckab
open Go.RowKit
set_option linter.unusedVariables false
set_option linter.unusedSimpArgs false

theorem rules_nil (w : World) : RulesAt w (.slice none 0 0) [] := ⟨[], rfl, RowsAt.nil _ _, fun i n av hn => by simp at hn⟩
theorem decls_nil (w : World) (X : Nat → Prop) : DeclsIn w X (.slice none 0 0) [] := ⟨RowsAt.nil _ _, fun k hk => by cases hk⟩
/-- the two readers, in one form -/
theorem both_sheet (s : B) (hs : s.length ≤ 9223372036854775807) : ∃ (rs : List PRule) (fe fp : Int),
    (∀ (w : World) (m : Int), w.cell? ⟨0, 0, none⟩ = some (.int .i64 m) → Calls Try.prog 9 #[.string (str s)] w fun e w' => ∃ v, e = .returned (.tuple #[v, .agg #[.int .i64 fe, .int .i64 fp]]) ∧ Kept (fun _ => False) w w' ∧ RulesAt w' v rs) ∧
    (∀ (w : World), Calls Try.prog 10 #[.string (str s)] w fun e w' => ∃ v, e = .returned (.tuple #[v, .agg #[.int .i64 fe, .int .i64 fp]]) ∧ Kept (fun _ => False) w w' ∧ RulesAt w' v rs) := by
  cases hp : sParse s with
  | bad f =>
    refine ⟨[], f.err, f.pos, fun w m hm => ?_, fun w => ?_⟩
    · refine (sparse_any s w m hm hs).mono fun e w' hh => ?_
      rw [hp] at hh
      exact ⟨_, hh.1, Kept.of_below hh.2, rules_nil _⟩
    · refine (rsheet_any s w hs).mono fun e w' hh => ?_
      rw [hp] at hh
      exact ⟨_, hh.1, Kept.of_below hh.2, rules_nil _⟩
  | ok rs =>
    refine ⟨rs, 0, 0, fun w m hm => ?_, fun w => ?_⟩
    · refine (sparse_any s w m hm hs).mono fun e w' hh => ?_
      rw [hp] at hh
      obtain ⟨v, vs, rfl, hb, ho⟩ := hh
      exact ⟨v, rfl, Kept.of_below hb, rules_reads (ho.done ruleCells_len rule_lasts)⟩
    · refine (rsheet_any s w hs).mono fun e w' hh => ?_
      rw [hp] at hh
      obtain ⟨v, rfl, hb, hn⟩ := hh
      exact ⟨v, rfl, Kept.of_below hb, rules_reads hn⟩
theorem both_decls (s : B) (hs : s.length ≤ 9223372036854775807) : ∃ (ds : List PDecl) (fe fp : Int),
    (∀ (w : World) (m : Int), w.cell? ⟨0, 0, none⟩ = some (.int .i64 m) → Calls Try.prog 12 #[.string (str s)] w fun e w' => ∃ v, e = .returned (.tuple #[v, .agg #[.int .i64 fe, .int .i64 fp]]) ∧ Kept (fun _ => False) w w' ∧ DeclsIn w' (fun k => k < w.heap.size) v ds) ∧
    (∀ (w : World), Calls Try.prog 13 #[.string (str s)] w fun e w' => ∃ v, e = .returned (.tuple #[v, .agg #[.int .i64 fe, .int .i64 fp]]) ∧ Kept (fun _ => False) w w' ∧ DeclsIn w' (fun k => k < w.heap.size) v ds) := by
  cases hp : sDeclsOf s with
  | bad f =>
    refine ⟨[], f.err, f.pos, fun w m hm => ?_, fun w => ?_⟩
    · refine (sdeclsOf_any s w m hm hs).mono fun e w' hh => ?_
      rw [hp] at hh
      exact ⟨_, hh.1, Kept.of_below hh.2, decls_nil _ _⟩
    · refine (rdeclsOf_any s w hs).mono fun e w' hh => ?_
      rw [hp] at hh
      exact ⟨_, hh.1, Kept.of_below hh.2, decls_nil _ _⟩
  | ok rs =>
    refine ⟨rs, 0, 0, fun w m hm => ?_, fun w => ?_⟩
    · refine (sdeclsOf_any s w m hm hs).mono fun e w' hh => ?_
      rw [hp] at hh
      obtain ⟨v, rfl, hb, ho⟩ := hh
      exact ⟨v, rfl, Kept.of_below hb, ho⟩
    · refine (rdeclsOf_any s w hs).mono fun e w' hh => ?_
      rw [hp] at hh
      obtain ⟨v, rfl, hb, hn⟩ := hh
      exact ⟨v, rfl, Kept.of_below hb, hn⟩

set_option maxRecDepth 100000 in
set_option maxHeartbeats 3200000 in
theorem sheetTells_any (s : B) (lv : Value) (ls : List PDecl) (m : Int) (w : World) (hm : w.cell? ⟨0, 0, none⟩ = some (.int .i64 m)) (hs : s.length ≤ 9223372036854775807) (hl : DeclsAt w lv ls) (hN : ls.length ≤ 4000000) (hone : ∀ d ∈ ls, d.name.length + d.val.length ≤ 4000000) :
    Calls Try.prog 3 #[.string (str s), lv] w fun e w' => e = .returned (.bool true) ∧ Kept (fun _ => False) w w' := by
  have h0 : 0 < w.heap.size := World.block_lt_of_cell? w _ hm
  obtain ⟨rs, fe, fp, hp, hq⟩ := both_sheet s hs
  obtain ⟨ds, ge, gp, hp2, hq2⟩ := both_decls s hs
  have HP := Lib.hid (hp w m hm)
  have HQ := Lib.hid hq
  have HP2 := Lib.hid hp2
  have HQ2 := Lib.hid hq2
  have HM := Lib.hid hm
  have HLS := Lib.hid hl
  have HONE := Lib.hid hone
  have HN := Lib.hid hN
  have H0 := Lib.hid h0
  obtain ⟨P, HPR⟩ : ∃ x, Hid (sPrint ls = x) := ⟨_, Lib.hid rfl⟩
  clear hp hq hp2 hq2 hm hl hone h0 hN
  go_enter Try.func3, Try.ntmps3
  go_wp2_with fail
  refine HP.out.mono ?_
  rintro e w1 ⟨va, rfl, hk1, hn1⟩
  obtain ⟨w2, HW2⟩ : ∃ x, Hid (w1.alloc (.cells #[.int .i64 fe, .int .i64 fp] 26 (0, 0)) = x) := ⟨_, Lib.hid rfl⟩
  have hk2 : Kept (fun _ => False) w1 w2 := by rw [← HW2.out]; exact (Kept.refl _ w1).alloc _
  obtain ⟨f1, HF1⟩ : ∃ x, Hid (w1.heap.size = x) := ⟨_, Lib.hid rfl⟩
  have HB2 : Hid (w2.heap[f1]? = some (.cells #[.int .i64 fe, .int .i64 fp] 26 (0, 0))) := Lib.hid (by rw [← HW2.out, ← HF1.out]; exact newIn w1 _)
  have HR2 := Lib.hid (rules_firm _ _ _ _ hn1 hk2.below)
  have HK2 := Lib.hid (hk1.trans hk2)
  have HLF1 : Hid (w.heap.size ≤ f1) := Lib.hid (by rw [← HF1.out]; exact hk1.size)
  clear hk1 hn1 hk2
  go_upto_region 2 with fail
  rw [HW2.out, HF1.out]
  go_wp2_with fail
  refine (HQ.out w2).mono ?_
  rintro e w3 ⟨vb, rfl, hk3, hn3⟩
  obtain ⟨w4, HW4⟩ : ∃ x, Hid (w3.alloc (.cells #[.int .i64 fe, .int .i64 fp] 26 (0, 0)) = x) := ⟨_, Lib.hid rfl⟩
  have hk4 : Kept (fun _ => False) w3 w4 := by rw [← HW4.out]; exact (Kept.refl _ w3).alloc _
  obtain ⟨f2, HF2⟩ : ∃ x, Hid (w3.heap.size = x) := ⟨_, Lib.hid rfl⟩
  have hb4 : w4.heap[f2]? = some (.cells #[.int .i64 fe, .int .i64 fp] 26 (0, 0)) := by rw [← HW4.out, ← HF2.out]; exact newIn w3 _
  have HA4 := Lib.hid (rules_firm _ _ _ _ HR2.out (hk3.trans hk4).below)
  have HB4 := Lib.hid (rules_firm _ _ _ _ hn3 hk4.below)
  have HK4 := Lib.hid ((HK2.out.trans hk3).trans hk4)
  have HLF2 : Hid (f1 < f2) := Lib.hid (by rw [← HF2.out]; exact Nat.lt_of_lt_of_le (ltIn HB2.out) hk3.size)
  have hb4' := (hk3.trans hk4).heap id HB2.out
  have HY4 := Lib.hid hb4
  have HX4 := Lib.hid hb4'
  have y0 := cellIn hb4 0 rfl
  have y1 := cellIn hb4 1 rfl
  have x0 := cellIn hb4' 0 rfl
  have x1 := cellIn hb4' 1 rfl
  clear hk3 hn3 hk4 hb4 hb4'
  go_upto_region 3 with fail
  rw [HW4.out, HF2.out]
  go_wp2_with fail
  refine (sameRules_any w4 _ _ rs HA4.out HB4.out).mono ?_
  rintro e w5 ⟨rfl, hq5⟩
  have HK5 := Lib.hid (HK4.out.trans (hq5.kept _))
  have HX5 := Lib.hid ((hq5.kept (fun _ => False)).heap id HX4.out)
  have HY5 := Lib.hid ((hq5.kept (fun _ => False)).heap id HY4.out)
  have hm5 : w5.cell? ⟨0, 0, none⟩ = some (.int .i64 m) := HK5.out.cell id HM.out
  have HC5 := Lib.hid (HP2.out w5 m hm5)
  clear hq5 x0 x1 y0 y1 hm5
  go_wp2_with fail
  refine HC5.out.mono ?_
  rintro e w6 ⟨vc, rfl, hk6, hn6⟩
  have hx6 := hk6.heap id HX5.out
  have HY6 := Lib.hid (hk6.heap id HY5.out)
  have x0 := cellIn hx6 0 rfl
  have x1 := cellIn hx6 1 rfl
  have z0 := freeIn hx6 0
  have z1 := freeIn hx6 1
  obtain ⟨w7, HW7⟩ : ∃ x, Hid ((w6.setCell ⟨f1, 0, none⟩ (.int .i64 ge)).setCell ⟨f1, 1, none⟩ (.int .i64 gp) = x) := ⟨_, Lib.hid rfl⟩
  have HX7 : Hid (w7.heap[f1]? = some (.cells #[.int .i64 ge, .int .i64 gp] 26 (0, 0))) := Lib.hid (by rw [← HW7.out]; exact setIn (setIn hx6 0 _) 1 _)
  have hk67 : Kept (· = f1) w6 w7 := by rw [← HW7.out]; exact ((Kept.refl (· = f1) w6).setCell (p := ⟨f1, 0, none⟩) (.inl rfl) _).setCell (p := ⟨f1, 1, none⟩) (.inl rfl) _
  have HY7 := Lib.hid (hk67.heap (by have := HLF2.out; show ¬ f2 = f1; omega) HY6.out)
  have HK7 : Hid (Kept (fun _ => False) w w7) := Lib.hid ((HK5.out.trans hk6).trans' hk67 (fun k hk hs => by have := HLF1.out; omega))
  have HC7 : Hid (DeclsIn w7 (fun k => k < w5.heap.size) vc ds) := Lib.hid (decls_lasts _ _ _ _ _ _ _ hn6 hk67 (fun k hk hs => by have h1 : k = f1 := hs; have h2 := ltIn HX5.out; show k < w5.heap.size; omega) (fun k _ hx => hx))
  clear hk6 hn6 hx6 hk67
  go_upto_region 6 with fail
  rw [HW7.out]
  clear x0 x1 z0 z1
  go_wp2_with fail
  refine (HQ2.out w7).mono ?_
  rintro e w8 ⟨vd, rfl, hk8, hn8⟩
  have HX8 := Lib.hid (hk8.heap id HX7.out)
  have hy8 := hk8.heap id HY7.out
  have x0 := cellIn hy8 0 rfl
  have x1 := cellIn hy8 1 rfl
  have z0 := freeIn hy8 0
  have z1 := freeIn hy8 1
  obtain ⟨w9, HW9⟩ : ∃ x, Hid ((w8.setCell ⟨f2, 0, none⟩ (.int .i64 ge)).setCell ⟨f2, 1, none⟩ (.int .i64 gp) = x) := ⟨_, Lib.hid rfl⟩
  have hy9 : w9.heap[f2]? = some (.cells #[.int .i64 ge, .int .i64 gp] 26 (0, 0)) := by rw [← HW9.out]; exact setIn (setIn hy8 0 _) 1 _
  have hk89 : Kept (· = f2) w8 w9 := by rw [← HW9.out]; exact ((Kept.refl (· = f2) w8).setCell (p := ⟨f2, 0, none⟩) (.inl rfl) _).setCell (p := ⟨f2, 1, none⟩) (.inl rfl) _
  have hx9 := hk89.heap (by have := HLF2.out; show ¬ f1 = f2; omega) HX8.out
  have HK9 : Hid (Kept (fun _ => False) w w9) := Lib.hid ((HK7.out.trans hk8).trans' hk89 (fun k hk hs => by have := HLF1.out; have := HLF2.out; omega))
  have HD9 : Hid (DeclsAt w9 vd ds) := Lib.hid (decls_lasts _ _ _ _ _ _ _ hn8 hk89 (fun k hk hs => by have h1 : k = f2 := hs; have h2 := ltIn HY7.out; show k < w7.heap.size; omega) (fun k _ hx => hx)).1
  have HC9 : Hid (DeclsAt w9 vc ds) := Lib.hid (decls_lasts _ _ _ (fun k => k < w5.heap.size) _ _ _ (decls_lasts _ _ _ (fun k => k < w5.heap.size) _ _ _ HC7.out hk8 (fun k _ hs => hs.elim) (fun k _ hx => hx)) hk89 (fun k hk hs => by have h1 : k = f2 := hs; have h2 := ltIn HY5.out; show k < w5.heap.size; omega) (fun k _ hx => hx)).1
  clear hk8 hn8 hy8 hk89
  go_upto_region 7 with fail
  rw [HW9.out]
  clear x0 x1 z0 z1
  have x0 := cellIn hx9 0 rfl
  have x1 := cellIn hx9 1 rfl
  have y0 := cellIn hy9 0 rfl
  have y1 := cellIn hy9 1 rfl
  clear hx9 hy9
  go_wp2_with fail
  refine (sameDecls_any w9 _ _ ds HC9.out HD9.out).mono ?_
  rintro e w10 ⟨rfl, hq10⟩
  have HK10 := Lib.hid (HK9.out.trans (hq10.kept _))
  clear hq10 x0 x1 y0 y1
  go_wp2_with fail
  refine (print_at w10 _ ls (decls_firm _ _ _ _ HLS.out HK10.out.below) HN.out HONE.out).mono ?_
  rintro e w11 ⟨rfl, hb11⟩
  have HK11 := Lib.hid (HK10.out.trans (Kept.of_below hb11))
  rw [HPR.out]
  clear hb11
  go_wp2_with fail
  refine (rprint_any w11 _ ls (decls_firm _ _ _ _ HLS.out HK11.out.below) HN.out HONE.out).mono ?_
  rintro e w12 ⟨rfl, hk12⟩
  rw [HPR.out]
  go_wp2_with fail
  go_ret
  exact ⟨rfl, HK11.out.trans hk12⟩
end Go.Proofs.Ytplbdlgmjehckab
