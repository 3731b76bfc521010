/-
  inklaw2.alive.
-/
import Derived.Test.YtplbdlgmjehckabShPrint
namespace Go.Proofs.Ytplbdlgmjehckab
open Go.RowKit
set_option linter.unusedVariables false
set_option linter.unusedSimpArgs false

def aliveSheet : B := [112, 46, 97, 32, 62, 32, 98, 44, 32, 35, 113, 32, 123, 32, 99, 111, 108, 111, 114, 58, 32, 114, 101, 100, 32, 33, 105, 109, 112, 111, 114, 116, 97, 110, 116, 59, 32, 101, 100, 103, 101, 58, 32, 49, 32, 50, 32, 125, 32, 64, 109, 101, 100, 105, 97, 32, 119, 105, 100, 101, 32, 123, 32, 105, 32, 123, 32, 115, 105, 122, 101, 58, 32, 49, 50, 32, 125, 32, 125]
def aliveDecls : B := [99, 111, 108, 111, 114, 58, 32, 114, 101, 100, 59, 32, 115, 105, 122, 101, 58, 49, 50]
def alivePrint : B := [99, 111, 108, 111, 114, 58, 32, 114, 101, 100, 59, 32, 115, 105, 122, 101, 58, 32, 49, 50]
def wideWord : B := [119, 105, 100, 101]
theorem alive_sheet0 : (match sParse aliveSheet with | .ok [r0, r1] => r0.sels.length == 2 && r1.media == wideWord | _ => false) = true := by decide +kernel
theorem alive_sheet : ∃ r0 r1, sParse aliveSheet = .ok [r0, r1] ∧ r0.sels.length = 2 ∧ r1.media = wideWord := by
  have h := alive_sheet0
  revert h
  split
  · rename_i r0 r1 he
    intro h
    simp only [Bool.and_eq_true, beq_iff_eq] at h
    exact ⟨r0, r1, he, h.1, h.2⟩
  · intro h; cases h
theorem alive_decls0 : (match sDeclsOf aliveDecls with | .ok ds => sPrint ds == alivePrint && ds.length == 2 && ds.all (fun d => decide (d.name.length + d.val.length ≤ 4000000)) | _ => false) = true := by decide +kernel
theorem alive_decls : ∃ ds, sDeclsOf aliveDecls = .ok ds ∧ sPrint ds = alivePrint ∧ ds.length = 2 ∧ ∀ d ∈ ds, d.name.length + d.val.length ≤ 4000000 := by
  have h := alive_decls0
  revert h
  split
  · rename_i ds he
    intro h
    simp only [Bool.and_eq_true, beq_iff_eq, List.all_eq_true, decide_eq_true_eq] at h
    exact ⟨ds, he, h.1.1, h.1.2, h.2⟩
  · intro h; cases h

theorem sparse_ok (s : B) (rs : List PRule) (hp : sParse s = .ok rs) (w : World) (m : Int) (hm : w.cell? ⟨0, 0, none⟩ = some (.int .i64 m)) (hs : s.length ≤ 9223372036854775807) :
    Calls Try.prog 9 #[.string (str s)] w fun e w' => ∃ a cap, e = .returned (.tuple #[.slice a rs.length cap, .agg #[.int .i64 0, .int .i64 0]]) ∧ Below w.heap.size w w' ∧ RulesIn w' (fun k => k < w.heap.size) (.slice a rs.length cap) rs ∧ rs.length ≤ cap ∧ cap ≤ maxLen :=
  (sparse_any s w m hm hs).mono fun e w' hh => by
    rw [hp] at hh
    obtain ⟨v, vs, rfl, hb, ho⟩ := hh
    have hn := ho.done ruleCells_len rule_lasts
    obtain ⟨a, cap, rfl, h1, h2⟩ := NestIn.form hn
    exact ⟨a, cap, rfl, hb, hn, h1, h2⟩
theorem sparse_own (s : B) (rs : List PRule) (hp : sParse s = .ok rs) (w : World) (m : Int) (hm : w.cell? ⟨0, 0, none⟩ = some (.int .i64 m)) (hs : s.length ≤ 9223372036854775807) :
    Calls Try.prog 9 #[.string (str s)] w fun e w' => ∃ a cap vs, e = .returned (.tuple #[.slice a rs.length cap, .agg #[.int .i64 0, .int .i64 0]]) ∧ Below w.heap.size w w' ∧ RulesOwn w' w.heap.size (.slice a rs.length cap) rs vs ∧ rs.length ≤ cap ∧ cap ≤ maxLen :=
  (sparse_any s w m hm hs).mono fun e w' hh => by
    rw [hp] at hh
    obtain ⟨v, vs, rfl, hb, ho⟩ := hh
    obtain ⟨a, cap, rfl, h1, h2⟩ := NestIn.form (ho.done ruleCells_len rule_lasts)
    exact ⟨a, cap, vs, rfl, hb, ho, h1, h2⟩
theorem sparse_no (s : B) (f : Flt) (hp : sParse s = .bad f) (w : World) (m : Int) (hm : w.cell? ⟨0, 0, none⟩ = some (.int .i64 m)) (hs : s.length ≤ 9223372036854775807) :
    Calls Try.prog 9 #[.string (str s)] w fun e w' => e = .returned (.tuple #[.slice none 0 0, .agg #[.int .i64 (f.err : Int), .int .i64 (f.pos : Int)]]) ∧ Below w.heap.size w w' :=
  (sparse_any s w m hm hs).mono fun e w' hh => by rw [hp] at hh; exact hh
theorem sdecls_ok (s : B) (ds : List PDecl) (hp : sDeclsOf s = .ok ds) (w : World) (m : Int) (hm : w.cell? ⟨0, 0, none⟩ = some (.int .i64 m)) (hs : s.length ≤ 9223372036854775807) :
    Calls Try.prog 12 #[.string (str s)] w fun e w' => ∃ a cap, e = .returned (.tuple #[.slice a ds.length cap, .agg #[.int .i64 0, .int .i64 0]]) ∧ Below w.heap.size w w' ∧ DeclsIn w' (fun k => k < w.heap.size) (.slice a ds.length cap) ds ∧ ds.length ≤ cap ∧ cap ≤ maxLen :=
  (sdeclsOf_any s w m hm hs).mono fun e w' hh => by
    rw [hp] at hh
    obtain ⟨v, rfl, hb, hn⟩ := hh
    obtain ⟨a, cap, rfl, h1, h2⟩ := DeclsIn.form hn
    exact ⟨a, cap, rfl, hb, hn, h1, h2⟩
theorem sdecls_no (s : B) (f : Flt) (hp : sDeclsOf s = .bad f) (w : World) (m : Int) (hm : w.cell? ⟨0, 0, none⟩ = some (.int .i64 m)) (hs : s.length ≤ 9223372036854775807) :
    Calls Try.prog 12 #[.string (str s)] w fun e w' => e = .returned (.tuple #[.slice none 0 0, .agg #[.int .i64 (f.err : Int), .int .i64 (f.pos : Int)]]) ∧ Below w.heap.size w w' :=
  (sdeclsOf_any s w m hm hs).mono fun e w' hh => by rw [hp] at hh; exact hh
theorem RulesIn.below {w w' : World} {X : Nat → Prop} {v : Value} {rs : List PRule} (h : RulesIn w X v rs) (hb : Below w.heap.size w w') : RulesIn w' X v rs :=
  rules_lasts _ _ _ _ _ _ _ h (Kept.of_below (S := fun _ => False) hb) (fun _ _ h => h.elim) (fun _ _ h => h)
theorem DeclsIn.below {w w' : World} {X : Nat → Prop} {v : Value} {ds : List PDecl} (h : DeclsIn w X v ds) (hb : Below w.heap.size w w') : DeclsIn w' X v ds :=
  decls_lasts _ _ _ _ _ _ _ h (Kept.of_below (S := fun _ => False) hb) (fun _ _ h => h.elim) (fun _ _ h => h)

set_option maxRecDepth 100000 in
set_option maxHeartbeats 1600000 in
theorem alive2_any (w : World) (m : Int) (hm : w.cell? ⟨0, 0, none⟩ = some (.int .i64 m)) :
    Calls Try.prog 17 #[] w fun e w' => e = .returned (.bool true) ∧ Below w.heap.size w w' := by
  obtain ⟨x0, x1, hp, hl0, hm1⟩ := alive_sheet
  obtain ⟨ds, hd, hpr, hdl, hone⟩ := alive_decls
  have HM := Lib.hid hm
  clear hm
  go_enter Try.func17, Try.ntmps17
  go_wp2_with (go_at_call 9; refine (sparse_ok aliveSheet _ hp _ m HM.out (by decide)).mono ?_; rintro e w1 ⟨a, cap, rfl, hb1, hn1, hc1, hc2⟩)
  change RulesIn w1 _ (.slice a 2 cap) [x0, x1] at hn1
  change 2 ≤ cap at hc1
  have hna := hn1.below ((Below.refl _ w1).alloc (Nat.le_refl _) (.cells #[.int .i64 0, .int .i64 0] 26 (0, 0)))
  have hba : Below w.heap.size w (w1.alloc (.cells #[.int .i64 0, .int .i64 0] 26 (0, 0))) := hb1.alloc hb1.size _
  have hfa := newIn w1 (.cells #[.int .i64 0, .int .i64 0] 26 (0, 0))
  have hma : (w1.alloc (.cells #[.int .i64 0, .int .i64 0] 26 (0, 0))).cell? ⟨0, 0, none⟩ = some (.int .i64 m) := by rw [hba.cell (World.block_lt_of_cell? w _ HM.out)]; exact HM.out
  generalize (w1.alloc (.cells #[.int .i64 0, .int .i64 0] 26 (0, 0))) = wa at *
  refine (sdecls_ok aliveDecls ds hd wa m hma (by decide)).mono ?_
  rintro e w2 ⟨a2, cap2, rfl, hb2, hn2, hc3, hc4⟩
  rw [hdl] at hn2 ⊢
  have hr2 := hna.below hb2
  have hf2 := (Kept.of_below (S := fun _ => False) hb2).heap id hfa
  have hr3 := hr2.below ((Below.refl _ w2).alloc (Nat.le_refl _) (.cells #[.int .i64 0, .int .i64 0] 26 (0, 0)))
  have hd3 := hn2.below ((Below.refl _ w2).alloc (Nat.le_refl _) (.cells #[.int .i64 0, .int .i64 0] 26 (0, 0)))
  have hf3 := oldIn hf2 (.cells #[.int .i64 0, .int .i64 0] 26 (0, 0))
  have hg3 := newIn w2 (.cells #[.int .i64 0, .int .i64 0] 26 (0, 0))
  have hb3 : Below w.heap.size w (w2.alloc (.cells #[.int .i64 0, .int .i64 0] 26 (0, 0))) := (hba.trans (hb2.mono hba.size)).alloc (Nat.le_trans hba.size hb2.size) _
  obtain ⟨b, off, u, rfl, hc, sv, dv, rfl, hs1, hd1⟩ := NestIn.at hr3 (k := 0) (x := x0) rfl
  obtain ⟨b', off', u', hbb, hc', sv', dv', rfl, hs1', hd1'⟩ := NestIn.at hr3 (k := 1) (x := x1) rfl
  cases hbb
  obtain ⟨a5, cap5, rfl, hle5, hcap5⟩ := NestIn.form hs1
  rw [hl0] at hc
  have hdl2 : ds.length ≤ 4000000 := by omega
  have hw3 := hc 1 (.slice a5 2 cap5) rfl
  have hw4 := hc' 0 (.string (str x1.media)) rfl
  rw [hm1] at hw4
  have g0 : (w2.alloc (.cells #[.int .i64 0, .int .i64 0] 26 (0, 0))).cell? ⟨b, off + 1, none⟩ = some (.slice a5 2 cap5) := by simpa using hw3
  have g1 : (w2.alloc (.cells #[.int .i64 0, .int .i64 0] 26 (0, 0))).cell? ⟨b, off + 5, none⟩ = some (.string (str wideWord)) := by simpa using hw4
  have f0 : (w2.alloc (.cells #[.int .i64 0, .int .i64 0] 26 (0, 0))).cell? ⟨w1.heap.size, 0, none⟩ = some (.int .i64 0) := cellIn hf3 0 rfl
  have f1 : (w2.alloc (.cells #[.int .i64 0, .int .i64 0] 26 (0, 0))).cell? ⟨w2.heap.size, 0, none⟩ = some (.int .i64 0) := cellIn hg3 0 rfl
  have HPR := Lib.hid (print_any _ _ _ ds hd3 hdl2 hone)
  have HB3 := Lib.hid hb3
  unfold maxLen at hc2 hc4
  clear hw3 hw4 hc hc' hs1 hs1' hd1 hd1' hb1 hb2 hb3 hr2 hr3 hd3 hf2 hf3 hg3 hna hn1 hba hfa hma hn2 hone
  go_upto_region 3 with fail
  rw [hpr] at HPR
  generalize (w2.alloc (.cells #[.int .i64 0, .int .i64 0] 26 (0, 0))) = w3 at *
  have e1 : (str wideWord) = ⟨#[119, 105, 100, 101]⟩ := rfl
  rw [e1] at g1
  go_wp2_with (go_at_call 15; refine HPR.out.mono ?_; rintro e w4 ⟨rfl, hb4⟩)
  go_ret
  exact ⟨rfl, HB3.out.trans (hb4.mono HB3.out.size)⟩

end Go.Proofs.Ytplbdlgmjehckab
