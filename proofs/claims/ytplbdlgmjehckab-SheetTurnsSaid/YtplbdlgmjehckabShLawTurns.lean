/-
  inklaw2.SheetTurns.
-/
import Derived.Test.YtplbdlgmjehckabShAlive
namespace Go.Proofs.Ytplbdlgmjehckab
open Go.RowKit
set_option linter.unusedVariables false
set_option linter.unusedSimpArgs false

set_option maxRecDepth 100000 in
set_option maxHeartbeats 3200000 in
theorem sheetTurns_any (w : World) (s : B) (m : Int) (hm : w.cell? ⟨0, 0, none⟩ = some (.int .i64 m)) (hs : s.length ≤ 9223372036854775807) :
    Calls Try.prog 4 #[.string (str s)] w fun e w' => e = .returned (.bool true) ∧ Below w.heap.size w w' := by
  have h0 : 0 < w.heap.size := World.block_lt_of_cell? w _ hm
  have HM := Lib.hid hm
  clear hm
  go_enter Try.func4, Try.ntmps4
  go_wp2_with (go_at_call 17; refine (alive2_any _ m HM.out).mono ?_; rintro e w1 ⟨rfl, hb1⟩)
  have hm1 : w1.cell? ⟨0, 0, none⟩ = some (.int .i64 m) := by rw [hb1.cell h0]; exact HM.out
  cases hp : sDeclsOf s with
  | bad f =>
    have hne := (sdeclsOf_bad hp).1
    have hneI : ¬ ((f.err : Int) = 0) := by omega
    have HP := Lib.hid hp
    clear hp
    refine (sdecls_no s f HP.out w1 m hm1 hs).mono ?_
    rintro e w2 ⟨rfl, hb2⟩
    have hb : Below w.heap.size w w2 := hb1.trans (hb2.mono hb1.size)
    have HB := Lib.hid (hb.alloc hb.size (.cells #[.int .i64 (f.err : Int), .int .i64 (f.pos : Int)] 26 (0, 0)))
    have hg := newIn w2 (.cells #[.int .i64 (f.err : Int), .int .i64 (f.pos : Int)] 26 (0, 0))
    have f0 : (w2.alloc (.cells #[.int .i64 (f.err : Int), .int .i64 (f.pos : Int)] 26 (0, 0))).cell? ⟨w2.heap.size, 0, none⟩ = some (.int .i64 (f.err : Int)) := cellIn hg 0 rfl
    clear hb hb1 hb2 hg
    go_upto_region 4 with fail
    generalize (w2.alloc (.cells #[.int .i64 (f.err : Int), .int .i64 (f.pos : Int)] 26 (0, 0))) = w3 at *
    go_wp2_with fail
    go_ret
    exact ⟨rfl, HB.out⟩
  | ok ds =>
    obtain ⟨hok, hn20⟩ := declsOf_ok_of hp
    have hone : ∀ d ∈ ds, d.name.length + d.val.length ≤ 4000000 := fun d hd => by
      have := printOne_le (hok d hd)
      unfold printOne at this
      simp at this
      omega
    have hle := print_le hok
    have hrd := Lib.hid (print_read hok hn20)
    have hn4 : ds.length ≤ 4000000 := by omega
    have hpl : (sPrint ds).length ≤ 9223372036854775807 := by omega
    have HP := Lib.hid hp
    have HONE := Lib.hid hone
    clear hp hok hone hle
    refine (sdecls_ok s ds HP.out w1 m hm1 hs).mono ?_
    rintro e w2 ⟨a2, cap2, rfl, hb2, hn2, hc1, hc2⟩
    have hd3 := hn2.below ((Below.refl _ w2).alloc (Nat.le_refl _) (.cells #[.int .i64 0, .int .i64 0] 26 (0, 0)))
    have hb : Below w.heap.size w w2 := hb1.trans (hb2.mono hb1.size)
    have hb3 := hb.alloc hb.size (.cells #[.int .i64 0, .int .i64 0] 26 (0, 0))
    have hg := newIn w2 (.cells #[.int .i64 0, .int .i64 0] 26 (0, 0))
    have f0 : (w2.alloc (.cells #[.int .i64 0, .int .i64 0] 26 (0, 0))).cell? ⟨w2.heap.size, 0, none⟩ = some (.int .i64 0) := cellIn hg 0 rfl
    have HN2 := Lib.hid hn2
    have hszw := hb.size
    have k23 : Kept (· = w2.heap.size) w2 (w2.alloc (.cells #[.int .i64 0, .int .i64 0] 26 (0, 0))) := (Kept.refl _ _).alloc _
    have hsz3 : w2.heap.size < (w2.alloc (.cells #[.int .i64 0, .int .i64 0] 26 (0, 0))).heap.size := by simp
    clear hb hb1 hb2 hn2
    unfold maxLen at hc2
    go_upto_region 4 with fail
    generalize (w2.alloc (.cells #[.int .i64 0, .int .i64 0] 26 (0, 0))) = w3 at *
    have HB3 := Lib.hid hb3
    have HD3 := Lib.hid hd3
    clear hb3 hd3
    go_wp2_with fail
    refine (print_any _ _ _ ds HD3.out hn4 HONE.out).mono ?_
    rintro e w4 ⟨rfl, hb4⟩
    have hm4 : w4.cell? ⟨0, 0, none⟩ = some (.int .i64 m) := by rw [(HB3.out.trans (hb4.mono HB3.out.size)).cell h0]; exact HM.out
    have hd4 := HD3.out.below hb4
    have hg4 := (Kept.of_below (S := fun _ => False) hb4).heap id hg
    have HB4 := Lib.hid (HB3.out.trans (hb4.mono HB3.out.size))
    have k24 : Kept (· = w2.heap.size) w2 w4 := k23.trans (Kept.of_below hb4)
    have hsz4 := hb4.size
    clear hb4 f0 hg
    go_wp2_with fail
    refine (sdecls_ok (sPrint ds) ds hrd.out w4 m hm4 hpl).mono ?_
    rintro e w5 ⟨a5, cap5, rfl, hb5, hn5, hc3, hc4⟩
    have hg5 := (Kept.of_below (S := fun _ => False) hb5).heap id hg4
    have k25 : Kept (· = w2.heap.size) w2 w5 := k24.trans (Kept.of_below hb5)
    have HB5 := Lib.hid (HB4.out.trans (hb5.mono HB4.out.size))
    have hg6 := setIn (setIn hg5 0 (.int .i64 0)) 1 (.int .i64 0)
    have k26 : Kept (· = w2.heap.size) w2 ((w5.setCell ⟨w2.heap.size, 0, none⟩ (.int .i64 0)).setCell ⟨w2.heap.size, 1, none⟩ (.int .i64 0)) := (k25.setCell (p := ⟨w2.heap.size, 0, none⟩) (.inl rfl) _).setCell (p := ⟨w2.heap.size, 1, none⟩) (.inl rfl) _
    have k56 : Kept (· = w2.heap.size) w5 ((w5.setCell ⟨w2.heap.size, 0, none⟩ (.int .i64 0)).setCell ⟨w2.heap.size, 1, none⟩ (.int .i64 0)) := ((Kept.refl (· = w2.heap.size) w5).setCell (p := ⟨w2.heap.size, 0, none⟩) (.inl rfl) _).setCell (p := ⟨w2.heap.size, 1, none⟩) (.inl rfl) _
    have hq1 := decls_lasts _ _ _ (fun _ => False) _ _ _ HN2.out k26 (fun k hk (hs : k = _) => by omega) (fun _ _ h => h.elim)
    have hq2 := decls_lasts _ _ _ (fun _ => False) _ _ _ hn5 k56 (fun k hk (hs : k = _) => by show k < w4.heap.size; omega) (fun _ _ h => h.elim)
    have k06 : Below w.heap.size w ((w5.setCell ⟨w2.heap.size, 0, none⟩ (.int .i64 0)).setCell ⟨w2.heap.size, 1, none⟩ (.int .i64 0)) := ((Kept.of_below (S := fun _ => False) HB5.out).trans' k56 (fun i hi (hs : i = _) => by omega)).below
    have f0 : ((w5.setCell ⟨w2.heap.size, 0, none⟩ (.int .i64 0)).setCell ⟨w2.heap.size, 1, none⟩ (.int .i64 0)).cell? ⟨w2.heap.size, 0, none⟩ = some (.int .i64 0) := cellIn hg6 0 rfl
    have g0f := freeIn hg5 0
    have g1f := freeIn hg5 1
    have g0 : w5.cell? ⟨w2.heap.size, 0, none⟩ = some (.int .i64 0) := cellIn hg5 0 rfl
    have g1 : w5.cell? ⟨w2.heap.size, 1, none⟩ = some (.int .i64 0) := cellIn hg5 1 rfl
    have H1 := Lib.hid hq1
    have H2 := Lib.hid hq2
    have K06 := Lib.hid k06
    clear hg6 k26 k56 hq1 hq2 k06 hg5 k25 hb5 hn5 k24 k23 hg4
    go_upto_region 8 with fail
    generalize ((w5.setCell ⟨w2.heap.size, 0, none⟩ (.int .i64 0)).setCell ⟨w2.heap.size, 1, none⟩ (.int .i64 0)) = w6 at *
    clear g0 g1 g0f g1f
    go_wp2_with (go_at_call 14; refine (sameDecls_any _ _ _ _ _ _ H1.out H2.out).mono ?_; rintro e w7 ⟨rfl, hq7⟩)
    have H27 := Lib.hid (H2.out.quiet hq7)
    have HB7 := Lib.hid ((Kept.of_below (S := fun _ => False) K06.out).trans (hq7.kept _)).below
    clear f0 hq7
    go_wp2_with (go_at_call 15; refine (print_any _ _ _ ds H27.out hn4 HONE.out).mono ?_; rintro e w8 ⟨rfl, hb8⟩)
    go_ret
    exact ⟨rfl, HB7.out.trans (hb8.mono HB7.out.size)⟩

end Go.Proofs.Ytplbdlgmjehckab
