/-
  inklaw1.PageWrapped.
-/
import Derived.Test.YtplbdlgmjehckaaPgPlaces
import Derived.Test.YtplbdlgmjehckaaPgSim
namespace Go.Proofs.Ytplbdlgmjehckaa
open Go.RowKit
set_option linter.unusedVariables false
set_option linter.unusedSimpArgs false

theorem parse_some (s : B) (w : World) (m : Int) (hm : w.cell? ⟨0, 0, none⟩ = some (.int .i64 m)) (hs : s.length ≤ 9223372036854775807) :
    Calls Try.prog 8 #[.string (str s)] w fun e w' => ∃ (a : Option Addr) (n cap : Nat) (x y : Int), e = .returned (.tuple #[.slice a n cap, .agg #[.int .i64 x, .int .i64 y]]) ∧ Below w.heap.size w w' :=
  (parse_any s w m hm hs).mono fun e w' hh => by
    cases hp : pParse s with
    | bad f => rw [hp] at hh; obtain ⟨rfl, hb⟩ := hh; exact ⟨_, _, _, _, _, rfl, hb⟩
    | ok ns =>
      rw [hp] at hh
      obtain ⟨v, rfl, hb, hn⟩ := hh
      obtain ⟨a, cap, rfl, _⟩ := hn.form
      exact ⟨_, _, _, _, _, rfl, hb⟩

theorem wrap_n (x : PNode) (hx : -1 ≤ x.parent) : (wrapSft.n x).name = x.name ∧ (wrapSft.n x).parent = x.parent + 1 ∧ (wrapSft.n x).nameEnd = x.nameEnd + 3 ∧ (wrapSft.n x).attrs.length = x.attrs.length := by
  have hp : wrapSft.p x.parent = x.parent + 1 := by
    unfold Sft.p
    split
    · simp [wrapSft]
    · show (0 : Int) = _; omega
  unfold Sft.n
  split
  · exact ⟨rfl, hp, rfl, by simp [Sft.n0]⟩
  · exact ⟨rfl, hp, rfl, by simp [Sft.n0]⟩

set_option maxRecDepth 100000 in
set_option maxHeartbeats 3200000 in
theorem wrapped_any (w : World) (s : B) (m : Int) (hm : w.cell? ⟨0, 0, none⟩ = some (.int .i64 m)) (hs : s.length ≤ 140737488355328) :
    Calls Try.prog 6 #[.string (str s)] w fun e w' => e = .returned (.bool true) ∧ Below w.heap.size w w' := by
  have h0 : 0 < w.heap.size := World.block_lt_of_cell? w _ hm
  have hs2 : s.length ≤ 9223372036854775807 := by omega
  have hws : (wrap s).length ≤ 9223372036854775807 := by simp [wrap]; omega
  cases hp : pParse s with
  | bad f =>
    have hff := parse_fact s
    rw [hp] at hff
    have hfe : ((f.err : Int) != 0) = true := by have := hff.1; simp; omega
    go_enter Try.func6, Try.ntmps6
    go_wp2_with (go_at_call 17; refine (alive_any _ m hm).mono ?_; rintro e w1 ⟨rfl, hb1⟩)
    have hm1 : w1.cell? ⟨0, 0, none⟩ = some (.int .i64 m) := (hb1.cell h0).trans hm
    refine (parse_bad s f hp _ m hm1 hs2).mono ?_
    rintro e w2 ⟨rfl, hb2⟩
    have hbw := (hb1.trans (hb2.mono hb1.size)).alloc (Nat.le_trans hb1.size hb2.size) (.cells #[.int .i64 f.err, .int .i64 f.pos] 25 (0, 0))
    have hm2 : (w2.alloc (.cells #[.int .i64 f.err, .int .i64 f.pos] 25 (0, 0))).cell? ⟨0, 0, none⟩ = some (.int .i64 m) := (hbw.cell h0).trans hm
    have hfc := newIn w2 (.cells #[.int .i64 f.err, .int .i64 f.pos] 25 (0, 0))
    go_wp2_with fail
    refine (parse_some (wrap s) _ m hm2 hws).mono ?_
    rintro e w3 ⟨a, n, cap, x, y, rfl, hb3⟩
    have hf3 := (Kept.of_below (S := fun _ => False) hb3).heap id hfc
    have fc0 : w3.cell? ⟨w2.heap.size, 0, none⟩ = some (.int .i64 f.err) := cellIn hf3 0 rfl
    have fc1 : ∀ o, (w3.alloc o).cell? ⟨w2.heap.size, 0, none⟩ = some (.int .i64 f.err) := fun o => cell_alloc fc0 o
    have hb := (hbw.trans (hb3.mono hbw.size)).alloc (Nat.le_trans hbw.size hb3.size) (.cells #[.int .i64 x, .int .i64 y] 25 (0, 0))
    clear hb1 hb2 hbw hfc hf3 hb3 fc0 hm2
    go_wp2_with fail
    go_ret
    exact ⟨rfl, hb⟩
  | ok ns =>
    have hpl := (parse_items hp).2.2
    have hs6 := (parse_items hp).1
    have HPL := Lib.hid hpl
    have HW := Lib.hid (parse_wrapped hp)
    clear hpl
    go_enter Try.func6, Try.ntmps6
    go_wp2_with (go_at_call 17; refine (alive_any _ m hm).mono ?_; rintro e w1 ⟨rfl, hb1⟩)
    have hm1 : w1.cell? ⟨0, 0, none⟩ = some (.int .i64 m) := (hb1.cell h0).trans hm
    refine (parse_ok s ns hp _ m hm1 hs2).mono ?_
    rintro e w2 ⟨a, cap, rfl, hb2, hn2⟩
    have hbw := (hb1.trans (hb2.mono hb1.size)).alloc (Nat.le_trans hb1.size hb2.size) (.cells #[.int .i64 0, .int .i64 0] 25 (0, 0))
    have hnw := hn2.kept ((Below.refl _ w2).alloc (Nat.le_refl _) (.cells #[.int .i64 0, .int .i64 0] 25 (0, 0)))
    have hm2 : (w2.alloc (.cells #[.int .i64 0, .int .i64 0] 25 (0, 0))).cell? ⟨0, 0, none⟩ = some (.int .i64 m) := (hbw.cell h0).trans hm
    have hfc := newIn w2 (.cells #[.int .i64 0, .int .i64 0] 25 (0, 0))
    have HBW := Lib.hid hbw
    have HNW := Lib.hid hnw
    obtain ⟨hle, hcap⟩ := hn2.cap
    clear hb1 hb2 hn2 hbw hnw hm1
    go_wp2_with fail
    rcases HW.out with ⟨p4, hb4⟩ | hok
    · refine (parse_bad (wrap s) _ hb4 _ m hm2 hws).mono ?_
      rintro e w3 ⟨rfl, hb3⟩
      have hf3 := (Kept.of_below (S := fun _ => False) hb3).heap id hfc
      have fc0 : w3.cell? ⟨w2.heap.size, 0, none⟩ = some (.int .i64 0) := cellIn hf3 0 rfl
      have fc1 : ∀ o, (w3.alloc o).cell? ⟨w2.heap.size, 0, none⟩ = some (.int .i64 0) := fun o => cell_alloc fc0 o
      have hb := (HBW.out.trans (hb3.mono HBW.out.size)).alloc (Nat.le_trans HBW.out.size hb3.size) (.cells #[.int .i64 4, .int .i64 p4] 25 (0, 0))
      clear hfc hf3 hb3 fc0 hm2
      go_wp2_with fail
      go_ret
      exact ⟨rfl, hb⟩
    · refine (parse_ok (wrap s) _ hok _ m hm2 hws).mono ?_
      rintro e w3 ⟨a3, cap3, rfl, hb3, hn3⟩
      have hf3 := (Kept.of_below (S := fun _ => False) hb3).heap id hfc
      have fc0 : w3.cell? ⟨w2.heap.size, 0, none⟩ = some (.int .i64 0) := cellIn hf3 0 rfl
      have fc1 : ∀ o, (w3.alloc o).cell? ⟨w2.heap.size, 0, none⟩ = some (.int .i64 0) := fun o => cell_alloc fc0 o
      have hb := (HBW.out.trans (hb3.mono HBW.out.size)).alloc (Nat.le_trans HBW.out.size hb3.size) (.cells #[.int .i64 0, .int .i64 0] 25 (0, 0))
      have hl3 := (HNW.out.kept hb3).kept ((Below.refl _ w3).alloc (Nat.le_refl _) (.cells #[.int .i64 0, .int .i64 0] 25 (0, 0)))
      have hm3 := hn3.kept ((Below.refl _ w3).alloc (Nat.le_refl _) (.cells #[.int .i64 0, .int .i64 0] 25 (0, 0)))
      obtain ⟨hle3, hcap3⟩ := hn3.cap
      obtain ⟨b3, off3, av0, rfl, k0, k1, k2⟩ := hm3.at (k := 0) (x := wrapNode) rfl
      have hlen3 : (wrapNode :: ns.map wrapSft.n).length = ns.length + 1 := by simp
      rw [hlen3] at hle3 hm3 ⊢
      have HB := Lib.hid hb
      have HL := Lib.hid hl3
      have HM := Lib.hid hm3
      have k0' : ((w3.alloc (.cells #[.int .i64 0, .int .i64 0] 25 (0, 0)))).cell? ⟨b3, off3, none⟩ = some (.string (str [112])) := by simpa [wrapNode] using k0
      have k1' : ((w3.alloc (.cells #[.int .i64 0, .int .i64 0] 25 (0, 0)))).cell? ⟨b3, off3 + 1, none⟩ = some (.int .i64 (-1)) := by simpa [wrapNode] using k1
      clear hfc hf3 hb3 fc0 hm2 hn3 hb hl3 hm3 k0 k1
      go_wp2_with fail
      clear fc1 k0' k1' k2
      generalize (w3.alloc (.cells #[.int .i64 0, .int .i64 0] 25 (0, 0))) = wb at *
      go_loopw [59] (fun i wr => ∃ k : Nat, k ≤ ns.length ∧ i = .int .i64 k ∧ Hid (Below wb.heap.size wb wr)) (fun i _ => ns.length - (intOf i).toNat)
      case atStart => exact ⟨0, by omega, rfl, Below.refl _ _⟩
      case round =>
        obtain ⟨i, hi, rfl, HR⟩ := hrel
        by_cases hlt : i < ns.length
        · have hx := List.getElem?_eq_getElem hlt
          generalize hgx : ns[i] = x at hx
          clear hgx
          obtain ⟨b, off, av, rfl, g0, g1, g2, g3, g4, g5, hav⟩ := (HL.out.kept HR.out).at hx
          have p1 := (HPL.out i x hx).1
          have p2 := (HPL.out i x hx).2.1
          obtain ⟨p3, p4⟩ : 0 ≤ x.nameEnd ∧ x.nameEnd ≤ 6000 := by
            obtain ⟨e, he1, he2, _⟩ := (HPL.out i x hx).2.2.1
            rw [he1]; omega
          obtain ⟨e1, e2, e3, e4⟩ := wrap_n x p1
          have hy : (wrapNode :: ns.map wrapSft.n)[i + 1]? = some (wrapSft.n x) := by simp [hx]
          obtain ⟨b4, off4, av4, hbb, r0, r1, r2, r3, r4, r5, hav4⟩ := (HM.out.kept HR.out).at hy
          simp only [Option.some.injEq, Addr.mk.injEq, and_true] at hbb
          obtain ⟨rfl, rfl⟩ := hbb
          rw [e1] at r0
          rw [e2] at r1
          rw [e3] at r3
          obtain ⟨a5, cap5, rfl, hle5, hcap5⟩ := hav.form
          obtain ⟨a6, cap6, rfl, hle6, hcap6⟩ := hav4.form
          rw [e4] at r2
          unfold maxLen at hcap5 hcap6
          generalize hF : (wrapSft.n x).inF = F4 at r4
          generalize hT : (wrapSft.n x).inT = T4 at r5
          obtain ⟨name, hname⟩ : ∃ y, x.name = y := ⟨_, rfl⟩
          obtain ⟨parent, hparent⟩ : ∃ y, x.parent = y := ⟨_, rfl⟩
          obtain ⟨attrs, hattrs⟩ : ∃ y, x.attrs = y := ⟨_, rfl⟩
          obtain ⟨nameEnd, hnameEnd⟩ : ∃ y, x.nameEnd = y := ⟨_, rfl⟩
          obtain ⟨inF, hinF⟩ : ∃ y, x.inF = y := ⟨_, rfl⟩
          obtain ⟨inT, hinT⟩ : ∃ y, x.inT = y := ⟨_, rfl⟩
          rw [hname] at g0 r0
          rw [hparent] at g1 r1 p1 p2
          rw [hattrs] at g2 r2 hle5
          rw [hnameEnd] at g3 r3 p3 p4
          rw [hinF] at g4
          rw [hinT] at g5
          have r0' : ∀ o, (wr.alloc o).cell? ⟨b3, off3 + (i + 1) * 6, none⟩ = some (.string (str name)) := fun o => cell_alloc r0 o
          have r1' : ∀ o, (wr.alloc o).cell? ⟨b3, off3 + (i + 1) * 6 + 1, none⟩ = some (.int .i64 (parent + 1)) := fun o => cell_alloc r1 o
          have r2' : ∀ o, (wr.alloc o).cell? ⟨b3, off3 + (i + 1) * 6 + 2, none⟩ = some (.slice a6 attrs.length cap6) := fun o => cell_alloc r2 o
          have r3' : ∀ o, (wr.alloc o).cell? ⟨b3, off3 + (i + 1) * 6 + 3, none⟩ = some (.int .i64 (nameEnd + 3)) := fun o => cell_alloc r3 o
          have r4' : ∀ o, (wr.alloc o).cell? ⟨b3, off3 + (i + 1) * 6 + 4, none⟩ = some (.int .i64 F4) := fun o => cell_alloc r4 o
          have r5' : ∀ o, (wr.alloc o).cell? ⟨b3, off3 + (i + 1) * 6 + 5, none⟩ = some (.int .i64 T4) := fun o => cell_alloc r5 o
          have hb2 := (HR.out.alloc HR.out.size (.cells #[.string (str name), .int .i64 parent, .slice a5 attrs.length cap5, .int .i64 nameEnd, .int .i64 inF, .int .i64 inT] 35 (0, 0)))
          have hb3 := (hb2.alloc hb2.size (.cells #[.string (str name), .int .i64 (parent + 1), .slice a6 attrs.length cap6, .int .i64 (nameEnd + 3), .int .i64 F4, .int .i64 T4] 35 (0, 0)))
          have HB3 := Lib.hid hb3
          clear hx hy hav hav4 r0 r1 r2 r3 r4 r5 hb2 hb3 hF hT e1 e2 e3 e4 hname hparent hattrs hnameEnd hinF hinT
          clear hok hp hs2 hws hle6 hlen3 hm HW
          go_wp2_with fail
          go_roundw
          case rel => exact ⟨i + 1, by omega, by go_num, HB3.out⟩
          case measure => simp [intOf]; omega
        · go_wp2
          go_ret
          exact ⟨rfl, HB.out.trans (HR.out.mono HB.out.size)⟩

end Go.Proofs.Ytplbdlgmjehckaa
