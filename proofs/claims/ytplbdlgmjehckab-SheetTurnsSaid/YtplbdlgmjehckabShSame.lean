/-
  inkref1's SameDecls, SameSelector, SameRules, where both are the same.
-/
import Derived.Test.YtplbdlgmjehckabShParse2
namespace Go.Proofs.Ytplbdlgmjehckab
open Go.RowKit
set_option linter.unusedVariables false
set_option linter.unusedSimpArgs false

theorem RowsAt.at {w : World} {size : Nat} {a : Option Addr} {n cap : Nat} {rows : List (List Value)} (h : RowsAt w size (.slice a n cap) rows) {k : Nat} {r : List Value} (hx : rows[k]? = some r) :
    ∃ b off, a = some ⟨b, off, none⟩ ∧ ∀ j c, r[j]? = some c → w.cell? ⟨b, off + k * size + j, none⟩ = some c := by
  obtain ⟨a', cap', hv, h1, h2, h3⟩ := h
  simp only [Value.slice.injEq] at hv
  obtain ⟨rfl, _, _⟩ := hv
  obtain ⟨b, off, ha, h4⟩ := h3 (by intro hn; subst hn; simp at hx)
  exact ⟨b, off, ha, h4 k r hx⟩
theorem DeclsIn.form {w : World} {X : Nat → Prop} {v : Value} {ds : List PDecl} (h : DeclsIn w X v ds) : ∃ a cap, v = .slice a ds.length cap ∧ ds.length ≤ cap ∧ cap ≤ maxLen := by
  obtain ⟨a, cap, e, h1, h2, _⟩ := h.1
  exact ⟨a, cap, by rw [e, List.length_map], by simpa using h1, h2⟩
theorem DeclsIn.at {w : World} {X : Nat → Prop} {a : Option Addr} {n cap : Nat} {ds : List PDecl} (h : DeclsIn w X (.slice a n cap) ds) {k : Nat} {x : PDecl} (hx : ds[k]? = some x) :
    ∃ b off, a = some ⟨b, off, none⟩ ∧ w.cell? ⟨b, off + k * 3, none⟩ = some (.string (str x.name)) ∧ w.cell? ⟨b, off + k * 3 + 1, none⟩ = some (.string (str x.val)) ∧ w.cell? ⟨b, off + k * 3 + 2, none⟩ = some (.bool x.strong) := by
  obtain ⟨b, off, ha, h4⟩ := RowsAt.at h.1 (k := k) (r := declCells x) (by simp [hx])
  exact ⟨b, off, ha, h4 0 _ rfl, h4 1 _ rfl, h4 2 _ rfl⟩
theorem DeclsIn.quiet {w w' : World} {X : Nat → Prop} {v : Value} {ds : List PDecl} (h : DeclsIn w X v ds) (hq : Qt w w') : DeclsIn w' X v ds :=
  decls_lasts _ _ _ _ _ _ _ h (hq.kept (fun _ => False)) (fun _ _ h => h.elim) (fun _ _ h => h)
theorem TestsIn.form {w : World} {X : Nat → Prop} {v : Value} {ds : List PTest} (h : TestsIn w X v ds) : ∃ a cap, v = .slice a ds.length cap ∧ ds.length ≤ cap ∧ cap ≤ maxLen := by
  obtain ⟨a, cap, e, h1, h2, _⟩ := h.1
  exact ⟨a, cap, by rw [e, List.length_map], by simpa using h1, h2⟩
theorem TestsIn.at {w : World} {X : Nat → Prop} {a : Option Addr} {n cap : Nat} {ds : List PTest} (h : TestsIn w X (.slice a n cap) ds) {k : Nat} {x : PTest} (hx : ds[k]? = some x) :
    ∃ b off, a = some ⟨b, off, none⟩ ∧ ∀ j c, (testCells x)[j]? = some c → w.cell? ⟨b, off + k * 3 + j, none⟩ = some c :=
  RowsAt.at h.1 (k := k) (r := testCells x) (by simp [hx])
theorem TestsIn.quiet {w w' : World} {X : Nat → Prop} {v : Value} {ds : List PTest} (h : TestsIn w X v ds) (hq : Qt w w') : TestsIn w' X v ds :=
  tests_lasts _ _ _ _ _ _ _ h (hq.kept (fun _ => False)) (fun _ _ h => h.elim) (fun _ _ h => h)
section
variable {α : Type} {f : α → Value → List Value} {size : Nat} {Q : World → (Nat → Prop) → Value → α → Prop} {w w' : World} {X : Nat → Prop} {v : Value} {xs : List α}
theorem NestIn.form (h : NestIn f size Q w X v xs) : ∃ a cap, v = .slice a xs.length cap ∧ xs.length ≤ cap ∧ cap ≤ maxLen := by
  obtain ⟨vs, h0, ⟨a, cap, e, h1, h2, _⟩, _⟩ := h
  exact ⟨a, cap, by rw [e]; simp [h0], by simpa [h0] using h1, h2⟩
theorem NestIn.at {a : Option Addr} {n cap : Nat} (h : NestIn f size Q w X (.slice a n cap) xs) {k : Nat} {x : α} (hx : xs[k]? = some x) :
    ∃ b off u, a = some ⟨b, off, none⟩ ∧ (∀ j c, (f x u)[j]? = some c → w.cell? ⟨b, off + k * size + j, none⟩ = some c) ∧ Q w X u x := by
  obtain ⟨vs, h0, h1, _, h4⟩ := h
  have hk := (List.getElem?_eq_some_iff.1 hx).1
  have hu : vs[k]? = some (vs[k]'(by omega)) := List.getElem?_eq_getElem _
  obtain ⟨b, off, ha, h5⟩ := RowsAt.at h1 (k := k) (r := f x (vs[k]'(by omega))) (by simp [List.getElem?_zipWith, hx, hu])
  exact ⟨b, off, _, ha, h5, h4 k x _ hx hu⟩
theorem NestIn.quiet (hQ : Lasts Q) (h : NestIn f size Q w X v xs) (hq : Qt w w') : NestIn f size Q w' X v xs :=
  nest_lasts hQ _ _ _ _ _ _ _ h (hq.kept (fun _ => False)) (fun _ _ h => h.elim) (fun _ _ h => h)
end

set_option maxRecDepth 100000 in
set_option maxHeartbeats 1600000 in
theorem sameDecls_any (w : World) (X Y : Nat → Prop) (va vb : Value) (ds : List PDecl) (ha : DeclsIn w X va ds) (hb : DeclsIn w Y vb ds) :
    Calls Try.prog 14 #[va, vb] w fun e w' => e = .returned (.bool true) ∧ Qt w w' := by
  obtain ⟨aa, ca, rfl, hca1, hca2⟩ := ha.form
  obtain ⟨ab, cb, rfl, hcb1, hcb2⟩ := hb.form
  unfold maxLen at hca2 hcb2
  have HA := Lib.hid ha
  have HB := Lib.hid hb
  clear ha hb
  go_enter Try.func14, Try.ntmps14
  go_wp2
  go_loopw [13] (fun i wr => ∃ k : Nat, k ≤ ds.length ∧ i = .int .i64 k ∧ Hid (Qt w wr)) (fun i _ => ds.length - (intOf i).toNat)
  case atStart => exact ⟨0, by omega, rfl, Qt.refl _⟩
  case round =>
    obtain ⟨i, hi, rfl, HQ⟩ := hrel
    by_cases hlt : i < ds.length
    · have hx := List.getElem?_eq_getElem hlt
      generalize hgx : ds[i] = x at hx
      clear hgx
      obtain ⟨b, off, rfl, g0, g1, g2⟩ := (HA.out.quiet HQ.out).at hx
      obtain ⟨b2, off2, rfl, r0, r1, r2⟩ := (HB.out.quiet HQ.out).at hx
      clear hx
      go_wp2_with fail
      go_quiet (fail)
      go_wp2_with fail
      go_roundw
      case rel => exact ⟨i + 1, by omega, by go_num, Qt.trans HQ.out ⟨nq, rfl⟩⟩
      case measure => simp [intOf]; omega
    · go_wp2
      go_ret
      exact ⟨rfl, HQ.out⟩

set_option maxRecDepth 100000 in
set_option maxHeartbeats 1600000 in
theorem sameSel_any (w : World) (X Y : Nat → Prop) (va vb : Value) (ps : List PPart) (ha : PartsIn w X va ps) (hb : PartsIn w Y vb ps) :
    Calls Try.prog 25 #[va, vb] w fun e w' => e = .returned (.bool true) ∧ Qt w w' := by
  obtain ⟨aa, ca, rfl, hca1, hca2⟩ := ha.form
  obtain ⟨ab, cb, rfl, hcb1, hcb2⟩ := hb.form
  unfold maxLen at hca2 hcb2
  have HA := Lib.hid ha
  have HB := Lib.hid hb
  clear ha hb
  go_enter Try.func25, Try.ntmps25
  go_wp2
  go_loopw [14] (fun i wr => ∃ k : Nat, k ≤ ps.length ∧ i = .int .i64 k ∧ Hid (Qt w wr)) (fun i _ => ps.length - (intOf i).toNat)
  case atStart => exact ⟨0, by omega, rfl, Qt.refl _⟩
  case round =>
    obtain ⟨i, hi, rfl, HQ⟩ := hrel
    obtain ⟨wr0, hwr0⟩ : ∃ x, x = wr := ⟨_, rfl⟩
    subst hwr0
    by_cases hlt : i < ps.length
    · have hx := List.getElem?_eq_getElem hlt
      generalize hgx : ps[i] = x at hx
      clear hgx
      obtain ⟨b, off, u, rfl, hc, hu⟩ := NestIn.at (HA.out.quiet part_lasts HQ.out) hx
      obtain ⟨b2, off2, u2, rfl, hc2, hu2⟩ := NestIn.at (HB.out.quiet part_lasts HQ.out) hx
      have g0 : wr0.cell? ⟨b, off + i * 2, none⟩ = some (.int .i64 x.join) := hc 0 _ rfl
      have g1 : wr0.cell? ⟨b, off + i * 2 + 1, none⟩ = some u := hc 1 _ rfl
      have r0 : wr0.cell? ⟨b2, off2 + i * 2, none⟩ = some (.int .i64 x.join) := hc2 0 _ rfl
      have r1 : wr0.cell? ⟨b2, off2 + i * 2 + 1, none⟩ = some u2 := hc2 1 _ rfl
      obtain ⟨a5, cap5, rfl, hle5, hcap5⟩ := TestsIn.form hu
      obtain ⟨a6, cap6, rfl, hle6, hcap6⟩ := TestsIn.form hu2
      unfold maxLen at hcap5 hcap6
      have HT := Lib.hid hu
      have HT2 := Lib.hid hu2
      clear hx hu hu2 hc hc2
      go_wp2_with fail
      go_quiet (fail)
      go_wp2_with fail
      go_loopw [49] (fun j wx => ∃ l : Nat, l ≤ x.tests.length ∧ j = .int .i64 l ∧ Hid (Qt wr0 wx)) (fun j _ => x.tests.length - (intOf j).toNat)
      case atStart => exact ⟨0, by omega, rfl, ⟨nq, rfl⟩⟩
      case round =>
        obtain ⟨l, hl, rfl, HQ2⟩ := hrel
        by_cases hlt2 : l < x.tests.length
        · have hy := List.getElem?_eq_getElem hlt2
          generalize hgy : x.tests[l] = y at hy
          clear hgy
          obtain ⟨b3, off3, rfl, hp⟩ := TestsIn.at (HT.out.quiet HQ2.out) hy
          obtain ⟨b4, off4, rfl, hq⟩ := TestsIn.at (HT2.out.quiet HQ2.out) hy
          have p0 : wr.cell? ⟨b3, off3 + l * 3, none⟩ = some _ := hp 0 _ rfl
          have p1 : wr.cell? ⟨b3, off3 + l * 3 + 1, none⟩ = some _ := hp 1 _ rfl
          have p2 : wr.cell? ⟨b3, off3 + l * 3 + 2, none⟩ = some _ := hp 2 _ rfl
          have q0 : wr.cell? ⟨b4, off4 + l * 3, none⟩ = some _ := hq 0 _ rfl
          have q1 : wr.cell? ⟨b4, off4 + l * 3 + 1, none⟩ = some _ := hq 1 _ rfl
          have q2 : wr.cell? ⟨b4, off4 + l * 3 + 2, none⟩ = some _ := hq 2 _ rfl
          obtain ⟨nn, hnn⟩ := HQ2.out
          have g2' : wr.cell? ⟨b, off + i * 2 + 1, none⟩ = some (.slice (some ⟨b3, off3, none⟩) x.tests.length cap5) := by rw [hnn]; exact g1
          have r2' : wr.cell? ⟨b2, off2 + i * 2 + 1, none⟩ = some (.slice (some ⟨b4, off4, none⟩) x.tests.length cap6) := by rw [hnn]; exact r1
          clear hy g0 r0 g1 r1 hnn hp hq
          go_wp2_with fail
          go_quiet (fail)
          go_wp2_with fail
          go_roundw
          case rel => exact ⟨l + 1, by omega, by go_num, Qt.trans HQ2.out ⟨nq, rfl⟩⟩
          case measure => simp [intOf]; omega
        · go_wp2_with fail
          go_roundw
          case rel => exact ⟨i + 1, by omega, by go_num, Qt.trans HQ.out HQ2.out⟩
          case measure => simp [intOf]; omega
    · go_wp2
      go_ret
      exact ⟨rfl, HQ.out⟩

set_option maxRecDepth 100000 in
set_option maxHeartbeats 1600000 in
theorem sameRules_any (w : World) (X Y : Nat → Prop) (va vb : Value) (rs : List PRule) (ha : RulesIn w X va rs) (hb : RulesIn w Y vb rs) :
    Calls Try.prog 11 #[va, vb] w fun e w' => e = .returned (.bool true) ∧ Qt w w' := by
  obtain ⟨aa, ca, rfl, hca1, hca2⟩ := ha.form
  obtain ⟨ab, cb, rfl, hcb1, hcb2⟩ := hb.form
  unfold maxLen at hca2 hcb2
  have HA := Lib.hid ha
  have HB := Lib.hid hb
  clear ha hb
  go_enter Try.func11, Try.ntmps11
  go_wp2
  go_loopw [14] (fun i wr => ∃ k : Nat, k ≤ rs.length ∧ i = .int .i64 k ∧ Hid (Qt w wr)) (fun i _ => rs.length - (intOf i).toNat)
  case atStart => exact ⟨0, by omega, rfl, Qt.refl _⟩
  case round =>
    obtain ⟨i, hi, rfl, HQ⟩ := hrel
    obtain ⟨wr0, hwr0⟩ : ∃ x, x = wr := ⟨_, rfl⟩
    subst hwr0
    by_cases hlt : i < rs.length
    · have hx := List.getElem?_eq_getElem hlt
      generalize hgx : rs[i] = x at hx
      clear hgx
      obtain ⟨b, off, u, rfl, hc, sv, dv, rfl, hs1, hd1⟩ := NestIn.at (HA.out.quiet rule_lasts HQ.out) hx
      obtain ⟨b2, off2, u2, rfl, hc2, sv2, dv2, rfl, hs2, hd2⟩ := NestIn.at (HB.out.quiet rule_lasts HQ.out) hx
      obtain ⟨a5, cap5, rfl, hle5, hcap5⟩ := NestIn.form hs1
      obtain ⟨a6, cap6, rfl, hle6, hcap6⟩ := NestIn.form hs2
      obtain ⟨a7, cap7, rfl, hle7, hcap7⟩ := hd1.form
      obtain ⟨a8, cap8, rfl, hle8, hcap8⟩ := hd2.form
      have g0 : wr0.cell? ⟨b, off + i * 5, none⟩ = some (.string (str x.media)) := hc 0 _ rfl
      have g1 : wr0.cell? ⟨b, off + i * 5 + 1, none⟩ = some (.slice a5 x.sels.length cap5) := hc 1 _ rfl
      have g2 : wr0.cell? ⟨b, off + i * 5 + 2, none⟩ = some (.slice a7 x.decls.length cap7) := hc 2 _ rfl
      have g3 : wr0.cell? ⟨b, off + i * 5 + 3, none⟩ = some (.int .i64 x.lo) := hc 3 _ rfl
      have g4 : wr0.cell? ⟨b, off + i * 5 + 4, none⟩ = some (.int .i64 x.hi) := hc 4 _ rfl
      have r0 : wr0.cell? ⟨b2, off2 + i * 5, none⟩ = some (.string (str x.media)) := hc2 0 _ rfl
      have r1 : wr0.cell? ⟨b2, off2 + i * 5 + 1, none⟩ = some (.slice a6 x.sels.length cap6) := hc2 1 _ rfl
      have r2 : wr0.cell? ⟨b2, off2 + i * 5 + 2, none⟩ = some (.slice a8 x.decls.length cap8) := hc2 2 _ rfl
      have r3 : wr0.cell? ⟨b2, off2 + i * 5 + 3, none⟩ = some (.int .i64 x.lo) := hc2 3 _ rfl
      have r4 : wr0.cell? ⟨b2, off2 + i * 5 + 4, none⟩ = some (.int .i64 x.hi) := hc2 4 _ rfl
      unfold maxLen at hcap5 hcap6 hcap7 hcap8
      have HS := Lib.hid hs1
      have HS2 := Lib.hid hs2
      have HD := Lib.hid hd1
      have HD2 := Lib.hid hd2
      clear hx hs1 hs2 hd1 hd2 hc hc2
      go_wp2_with fail
      go_quiet ((go_at_call 14; exact Calls.quiet_of (sameDecls_any _ X Y _ _ _ HD.out HD2.out)))
      clear g0 g2 g3 g4 r0 r2 r3 r4
      go_wp2_with fail
      go_loopw [76] (fun j wx => ∃ l : Nat, l ≤ x.sels.length ∧ j = .int .i64 l ∧ Hid (Qt wr0 wx)) (fun j _ => x.sels.length - (intOf j).toNat)
      case atStart => exact ⟨0, by omega, rfl, ⟨nq, rfl⟩⟩
      case round =>
        obtain ⟨l, hl, rfl, HQ2⟩ := hrel
        by_cases hlt2 : l < x.sels.length
        · have hy := List.getElem?_eq_getElem hlt2
          generalize hgy : x.sels[l] = y at hy
          clear hgy
          obtain ⟨b3, off3, u3, rfl, hp, hu3⟩ := NestIn.at (HS.out.quiet parts_lasts HQ2.out) hy
          obtain ⟨b4, off4, u4, rfl, hq, hu4⟩ := NestIn.at (HS2.out.quiet parts_lasts HQ2.out) hy
          have p0 : wr.cell? ⟨b3, off3 + l, none⟩ = some u3 := by have h := hp 0 u3 rfl; simpa using h
          have q0 : wr.cell? ⟨b4, off4 + l, none⟩ = some u4 := by have h := hq 0 u4 rfl; simpa using h
          obtain ⟨nn, hnn⟩ := HQ2.out
          have g2' : wr.cell? ⟨b, off + i * 5 + 1, none⟩ = some (.slice (some ⟨b3, off3, none⟩) x.sels.length cap5) := by rw [hnn]; exact g1
          have r2' : wr.cell? ⟨b2, off2 + i * 5 + 1, none⟩ = some (.slice (some ⟨b4, off4, none⟩) x.sels.length cap6) := by rw [hnn]; exact r1
          have HU := Lib.hid hu3
          have HU2 := Lib.hid hu4
          clear hy g1 r1 hnn hp hq hu3 hu4
          go_wp2_with fail
          go_quiet ((go_at_call 25; exact Calls.quiet_of (sameSel_any _ X Y _ _ _ HU.out HU2.out)))
          go_wp2_with fail
          go_roundw
          case rel => exact ⟨l + 1, by omega, by go_num, Qt.trans HQ2.out ⟨nq, rfl⟩⟩
          case measure => simp [intOf]; omega
        · go_wp2_with fail
          go_roundw
          case rel => exact ⟨i + 1, by omega, by go_num, Qt.trans HQ.out HQ2.out⟩
          case measure => simp [intOf]; omega
    · go_wp2
      go_ret
      exact ⟨rfl, HQ.out⟩

end Go.Proofs.Ytplbdlgmjehckab
