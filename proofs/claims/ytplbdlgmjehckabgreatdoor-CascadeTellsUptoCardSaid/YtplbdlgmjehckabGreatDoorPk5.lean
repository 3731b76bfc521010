/-
  Lemmas for the claims of this seat: the program's functions walked, and plain laws. In this order: MtBest CaSmall Str ShWalk Named.
-/
import Derived.Test.YtplbdlgmjehckabGreatDoorPk4
import Derived.Test.YtplbdlgmjehckabGreatDoorPk1
import Derived.Test.YtplbdlgmjehckabGreatDoorPk3
import Derived.Test.YtplbdlgmjehckabGreatDoorShelf
import Derived.Test.YtplbdlgmjehckabGreatDoorPk2
import Derived.Deep.DeepCutAuto
import Derived.Deep.CutBlock
import Derived.Deep.Light
import Derived.IntWalk
namespace Go.Proofs.YtplbdlgmjehckabGreatDoor
open Go.RowKit
set_option linter.unusedVariables false
set_option linter.unusedSimpArgs false
def IntsAt (w : World) (b : Nat) (x : PWt) : Prop := w.cell? ⟨b, 0, none⟩ = some (.int .i64 (x.a : Int)) ∧ w.cell? ⟨b, 1, none⟩ = some (.int .i64 (x.b : Int)) ∧ w.cell? ⟨b, 2, none⟩ = some (.int .i64 (x.c : Int))
theorem WtAt.ints {w : World} {b : Nat} {x : PWt} (h : WtAt w b x) : IntsAt w b x := ⟨cellIn h 0 rfl, cellIn h 1 rfl, cellIn h 2 rfl⟩
def Same3 (x y : PWt) (k : Nat) : Prop := (0 < k → x.a = y.a) ∧ (1 < k → x.b = y.b) ∧ (2 < k → x.c = y.c)
theorem cmp_step {w : World} {b1 b2 : Nat} {x y : PWt} {n : Nat} (h1 : IntsAt w b1 x) (h2 : IntsAt w b2 y) (hx : x.low n) (hy : y.low n) {k : Nat} (hk : k < 3) (hs : Same3 x y k) :
    ∃ u v : Nat, w.cell? ⟨b1, 0 + k, none⟩ = some (.int .i64 (u : Int)) ∧ w.cell? ⟨b2, 0 + k, none⟩ = some (.int .i64 (v : Int)) ∧ u ≤ n ∧ v ≤ n ∧ (u < v → wLt y x = false ∧ wLt x y = true) ∧ (v < u → wLt y x = true) ∧ (u = v → Same3 x y (k + 1)) := by
  obtain ⟨p0, p1, p2⟩ := h1
  obtain ⟨q0, q1, q2⟩ := h2
  obtain ⟨l0, l1, l2⟩ := hx
  obtain ⟨m0, m1, m2⟩ := hy
  obtain ⟨s0, s1, s2⟩ := hs
  rcases (by omega : k = 0 ∨ k = 1 ∨ k = 2) with rfl | rfl | rfl
  · refine ⟨_, _, p0, q0, l0, m0, fun h => ?_, fun h => ?_, fun h => ⟨fun _ => h, by omega, by omega⟩⟩
    · constructor <;> (simp [wLt]; omega)
    · simp [wLt]; omega
  · have e0 := s0 (by omega)
    refine ⟨_, _, p1, q1, l1, m1, fun h => ?_, fun h => ?_, fun h => ⟨fun _ => e0, fun _ => h, by omega⟩⟩
    · constructor <;> (simp [wLt]; omega)
    · simp [wLt]; omega
  · have e0 := s0 (by omega)
    have e1 := s1 (by omega)
    refine ⟨_, _, p2, q2, l2, m2, fun h => ?_, fun h => ?_, fun h => ⟨fun _ => e0, fun _ => e1, fun _ => h⟩⟩
    · constructor <;> (simp [wLt]; omega)
    · simp [wLt]; omega
def cmp3 (x y : PWt) : Int := if wLt y x = true then 1 else if wLt x y = true then -1 else 0
set_option maxRecDepth 100000 in
set_option maxHeartbeats 1600000 in
theorem compare3_any (w : World) (b1 b2 : Nat) (x y : PWt) (h1 : IntsAt w b1 x) (h2 : IntsAt w b2 y) (hx : x.low 1048576) (hy : y.low 1048576) :
    Calls Tryz.prog 64 #[.slice (some ⟨b1, 0, none⟩) 3 3, .slice (some ⟨b2, 0, none⟩) 3 3] w fun e w' => e = .returned (.int .i64 (cmp3 x y)) ∧ w' = w := by
  have H1 := Lib.hid h1
  have H2 := Lib.hid h2
  have HX := Lib.hid hx
  have HY := Lib.hid hy
  clear h1 h2 hx hy
  go_enter Tryz.func64, Tryz.ntmps64
  go_wp2_with fail
  go_loopw [11] (fun i wr => ∃ k : Nat, k ≤ 3 ∧ i = .int .i64 k ∧ wr = w ∧ Hid (Same3 x y k)) (fun i _ => 3 - (intOf i).toNat)
  case atStart => exact ⟨0, by omega, rfl, rfl, Lib.hid ⟨by omega, by omega, by omega⟩⟩
  case round =>
    obtain ⟨k, hk, rfl, rfl, HS⟩ := hrel
    by_cases hlt : k < 3
    · obtain ⟨u, v, c1, c2, hu, hv, hA, hB, hC⟩ := cmp_step H1.out H2.out HX.out HY.out hlt HS.out
      have HA := Lib.hid hA
      have HB := Lib.hid hB
      have HC := Lib.hid hC
      clear hA hB hC
      have HK := Lib.hid (Tryz.cmp_Compare_int (u : Int) (v : Int) wr)
      have ed : decide ((k : Int) < 3) = true := by simp; omega
      have ee : decide (3 ≤ (k : Int)) = false := by simp; omega
      rw [Nat.zero_add] at c1 c2
      by_cases g1 : u < v
      · have e1 : Lib.compareInt (u : Int) (v : Int) = -1 := by unfold Lib.compareInt; rw [if_pos (by omega)]
        rw [e1] at HK
        clear e1
        go_wp2_with (go_at_call 63; refine HK.out.mono ?_; rintro e w2 ⟨rfl, rfl⟩)
        go_ret
        exact ⟨by unfold cmp3; rw [(HA.out g1).1, (HA.out g1).2]; rfl, rfl⟩
      · by_cases g2 : v < u
        · have e1 : Lib.compareInt (u : Int) (v : Int) = 1 := by unfold Lib.compareInt; rw [if_neg (by omega), if_pos (by omega)]
          rw [e1] at HK
          clear e1
          go_wp2_with (go_at_call 63; refine HK.out.mono ?_; rintro e w2 ⟨rfl, rfl⟩)
          go_ret
          exact ⟨by unfold cmp3; rw [HB.out g2]; rfl, rfl⟩
        · have e1 : Lib.compareInt (u : Int) (v : Int) = 0 := by unfold Lib.compareInt; rw [if_neg (by omega), if_neg (by omega)]
          rw [e1] at HK
          clear e1
          go_wp2_with (go_at_call 63; refine HK.out.mono ?_; rintro e w2 ⟨rfl, rfl⟩)
          go_roundw
          case measure => simp [intOf]; omega
          case rel => exact ⟨k + 1, by omega, by go_num, trivial, Lib.hid (HC.out (by omega))⟩
    · obtain rfl : k = 3 := by omega
      go_wp2_with fail
      go_ret
      refine ⟨?_, rfl⟩
      obtain ⟨s0, s1, s2⟩ := HS.out
      obtain ⟨xa, xb, xc⟩ := x
      obtain ⟨ya, yb, yc⟩ := y
      have h1 := s0 (by omega)
      have h2 := s1 (by omega)
      have h3 := s2 (by omega)
      simp only at h1 h2 h3
      subst h1; subst h2; subst h3
      simp [cmp3, wLt]
theorem info_weight : (Tryz.prog.info? 91).map (fun i => (i.zero, i.size, i.bytes)) = some (some (.agg #[.int .i64 0, .int .i64 0, .int .i64 0]), 3, 24) := by kernel_rfl
def ruleVal (r : PRule) (u : Value) : Value := .agg (ruleCells r u).toArray
def FewTests (sels : List PSel) : Prop := sels.length ≤ 1048576 ∧ ∀ s ∈ sels, nTests s ≤ 1048576
theorem weigh_low (s : PSel) : (mWeigh s).low (nTests s) := by
  suffices h : ∀ (ps : List PPart) (x : PWt) (n : Nat), x.low n → (ps.foldl wPart x).low (n + nTests ps) by
    have := h s ⟨0, 0, 0⟩ 0 ⟨Nat.le_refl _, Nat.le_refl _, Nat.le_refl _⟩
    rwa [Nat.zero_add] at this
  intro ps
  induction ps with
  | nil => intro x n h; exact h
  | cons p ps ih =>
    intro x n h
    have h1 : (wPart x p).low (n + p.tests.length) := by
      unfold wPart
      generalize p.tests = ts
      induction ts generalizing x n with
      | nil => exact h
      | cons t ts iht => have := iht (wTest x t) (n + 1) (wTest_low h t); simp only [List.foldl_cons, List.length_cons]; rwa [show n + (ts.length + 1) = n + 1 + ts.length by omega]
    have := ih _ _ h1
    have e : nTests (p :: ps) = p.tests.length + nTests ps := by simp [nTests]
    rw [e, ← Nat.add_assoc]
    exact this
structure BLp (w wr : World) (c : Nat) (acc : PWt × Bool) : Prop where
  at_ : WtAt wr (c + 1) acc.1
  res : WtAt wr c ⟨0, 0, 0⟩
  new : w.heap.size ≤ c
  kept : Kept (fun _ => False) w wr
  low : acc.1.low 1048576
theorem BLp.kept_by {w wr wx : World} {c : Nat} {acc : PWt × Bool} (h : BLp w wr c acc) (hk : Kept (fun _ => False) wr wx) : BLp w wx c acc := ⟨hk.heap id h.at_, hk.heap id h.res, h.new, h.kept.trans hk, h.low⟩
theorem BLp.put {w wr : World} {c : Nat} {acc : PWt × Bool} (h : BLp w wr c acc) (x y z : Nat) (hl : PWt.low ⟨x, y, z⟩ 1048576) (b : Bool) :
    BLp w (((wr.setCell ⟨c + 1, 0, none⟩ (.int .i64 (x : Int))).setCell ⟨c + 1, 1, none⟩ (.int .i64 (y : Int))).setCell ⟨c + 1, 2, none⟩ (.int .i64 (z : Int))) c (⟨x, y, z⟩, b) := by
  have hn := h.new
  refine ⟨?_, otherIn (otherIn (otherIn h.res _ _ (by show c ≠ c + 1; omega)) _ _ (by show c ≠ c + 1; omega)) _ _ (by show c ≠ c + 1; omega), hn,
    ((h.kept.setCell (p := ⟨c + 1, 0, none⟩) (.inr (by show w.heap.size ≤ c + 1; omega)) _).setCell (p := ⟨c + 1, 1, none⟩) (.inr (by show w.heap.size ≤ c + 1; omega)) _).setCell (p := ⟨c + 1, 2, none⟩) (.inr (by show w.heap.size ≤ c + 1; omega)) _, hl⟩
  have := setIn (setIn (setIn h.at_ 0 (.int .i64 (x : Int))) 1 (.int .i64 (y : Int))) 2 (.int .i64 (z : Int))
  simpa [WtAt] using this
theorem BLp.drewN {w wr : World} {c : Nat} {acc : PWt × Bool} (h : BLp w wr c acc) (n : Nat) : BLp w (wr.drewN n) c acc := h.kept_by ((Kept.refl _ wr).drewN n)
def BestEnds (w : World) (r : PWt × Bool) (e : Ending) (w' : World) : Prop := e = .returned (.tuple #[wtVal r.1, .bool r.2]) ∧ Kept (fun _ => False) w w'
set_option maxRecDepth 100000 in
set_option maxHeartbeats 3200000 in
theorem best_any (ns : List PNode) (hns : MtCtx ns) (r : PRule) (u : Value) (m : Int) (w : World) (v : Value) (k : Int) (hv : NodesAt w v ns) (hr : RuleAt w u r) (hf : FewTests r.sels) (hk : -9223372036854775808 ≤ k ∧ k ≤ 9223372036854775807) (hm : w.cell? ⟨0, 0, none⟩ = some (.int .i64 m)) :
    Calls Tryz.prog 59 #[v, .int .i64 k, ruleVal r u] w (BestEnds w (mBest ns k r.sels)) := by
  obtain ⟨sv, dv, rfl, hs, hd⟩ := hr
  obtain ⟨sa, scap, rfl, hsc1, hsc2⟩ := NestAt.form hs
  obtain ⟨da, dcap, rfl, hdc1, hdc2⟩ := DeclsAt.form hd
  unfold maxLen at hsc2 hdc2
  have hfew := hf.1
  have HV := Lib.hid hv
  have HSL := Lib.hid hs
  have HF := Lib.hid hf.2
  have HM := Lib.hid hm
  have HK := Lib.hid hk
  clear hv hs hd hf hm
  show Calls Tryz.prog 59 #[v, .int .i64 k, .agg #[.string (str r.media), .slice sa r.sels.length scap, .slice da r.decls.length dcap, .int .i64 r.lo, .int .i64 r.hi]] w _
  have hb0 : BLp w (((w.alloc (.cells #[.string (str r.media), .slice sa r.sels.length scap, .slice da r.decls.length dcap, .int .i64 r.lo, .int .i64 r.hi] 59 (0, 0))).alloc (.cells #[.int .i64 0, .int .i64 0, .int .i64 0] 91 (0, 0))).alloc (.cells #[.int .i64 0, .int .i64 0, .int .i64 0] 91 (0, 0))) (w.heap.size + 1) (⟨0, 0, 0⟩, false) := by
    refine ⟨?_, ?_, by omega, (((Kept.refl _ w).alloc _).alloc _).alloc _, Nat.zero_le _, Nat.zero_le _, Nat.zero_le _⟩
    · have := newIn ((w.alloc (.cells #[.string (str r.media), .slice sa r.sels.length scap, .slice da r.decls.length dcap, .int .i64 r.lo, .int .i64 r.hi] 59 (0, 0))).alloc (.cells #[.int .i64 0, .int .i64 0, .int .i64 0] 91 (0, 0))) (.cells #[.int .i64 0, .int .i64 0, .int .i64 0] 91 (0, 0))
      simpa [WtAt] using this
    · have := newIn (w.alloc (.cells #[.string (str r.media), .slice sa r.sels.length scap, .slice da r.decls.length dcap, .int .i64 r.lo, .int .i64 r.hi] 59 (0, 0))) (.cells #[.int .i64 0, .int .i64 0, .int .i64 0] 91 (0, 0))
      exact oldIn (by simpa [WtAt] using this) _
  have HB0 := Lib.hid hb0
  clear hb0
  go_enter Tryz.func59, Tryz.ntmps59
  go_wp2_with fail
  obtain ⟨i0, hi0, hz0, hz1, hz2⟩ := info_parts info_sel
  obtain ⟨j0, hj0, hy0, hy1, hy2⟩ := info_parts info_weight
  go_loopw [9, 16] (fun f i wr => ∃ (j : Nat) (acc : PWt × Bool), j ≤ List.length r.sels ∧ i = .int .i64 j ∧ f = .bool acc.2 ∧ Hid (BLp w wr (w.heap.size + 1) acc) ∧ Hid ((r.sels.take j).foldl (bestStep ns k) (⟨0, 0, 0⟩, false) = acc)) (fun _ i _ => List.length r.sels - (intOf i).toNat)
  case atStart => exact ⟨0, (⟨0, 0, 0⟩, false), by omega, rfl, rfl, HB0, Lib.hid rfl⟩
  case round =>
    obtain ⟨j, acc, hj, rfl, rfl, HL, HX0⟩ := hrel
    obtain ⟨wr0, hwr0⟩ : ∃ x, x = wr := ⟨_, rfl⟩
    subst hwr0
    by_cases hlt : j < List.length r.sels
    · have hx := List.getElem?_eq_getElem hlt
      generalize hgx : r.sels[j] = s at hx
      clear hgx
      obtain ⟨pb, po, pv, rfl, hpc, hpt⟩ := NestAt.at HSL.out hx
      have p0 : wr0.cell? ⟨pb, po + j, none⟩ = some pv := HL.out.kept.cell id (by have := hpc 0 _ rfl; simpa using this)
      obtain ⟨pa, pc, rfl, hpc1, hpc2⟩ := NestAt.form hpt
      unfold maxLen at hpc2
      have HPT := Lib.hid (parts_firm.kept hpt HL.out.kept)
      have hnx : Hid ((r.sels.take (j + 1)).foldl (bestStep ns k) (⟨0, 0, 0⟩, false) = bestStep ns k acc s) := Lib.hid (by
        rw [List.take_add_one, hx, Option.toList_some, List.foldl_append, HX0.out]; rfl)
      have HNT := Lib.hid (HF.out s (List.mem_of_getElem? hx))
      obtain ⟨hit, HIT⟩ : ∃ x, Hid (mMatches ns k s = x) := ⟨_, rfl⟩
      have HMT := matches_any ns hns s m wr0 v _ k (nodes_firm.kept HV.out HL.out.kept) HPT.out HK.out (HL.out.kept.cell id HM.out)
      rw [HIT.out] at HMT
      have HMT := Lib.hid HMT
      clear hx hpc hpt
      obtain ⟨⟨xa, xb, xc⟩, done⟩ := acc
      cases hit with
      | false =>
        have hn2 : Hid (bestStep ns k (⟨xa, xb, xc⟩, done) s = (⟨xa, xb, xc⟩, done)) := Lib.hid (by unfold bestStep; rw [HIT.out]; rfl)
        rw [hn2.out] at hnx
        go_wp2_with (go_at_call 97; refine HMT.out.mono ?_; rintro e w3 ⟨rfl, hk3⟩)
        go_roundw
        case measure => simp [intOf]; omega
        case rel => exact ⟨j + 1, _, by omega, by go_num, by trivial, Lib.hid (HL.out.kept_by hk3), hnx⟩
      | true =>
        obtain ⟨⟨ya, yb, yc⟩, HWY⟩ : ∃ x, Hid (mWeigh s = x) := ⟨_, rfl⟩
        have HYL : Hid (PWt.low ⟨ya, yb, yc⟩ 1048576) := Lib.hid (low_mono (by rw [← HWY.out]; exact weigh_low s) HNT.out)
        have hn2 : Hid (bestStep ns k (⟨xa, xb, xc⟩, done) s = if (!done || wLt ⟨xa, xb, xc⟩ ⟨ya, yb, yc⟩) = true then (⟨ya, yb, yc⟩, true) else (⟨xa, xb, xc⟩, done)) := Lib.hid (by unfold bestStep; rw [HIT.out, HWY.out]; simp)
        rw [hn2.out] at hnx
        clear hn2
        go_upto_region 7 with (go_at_call 97; refine HMT.out.mono ?_; rintro e w3 ⟨rfl, hk3⟩)
        have HW := weigh_any s w3 _ (parts_firm.kept HPT.out hk3) HNT.out
        rw [HWY.out] at HW
        unfold wtVal at HW
        simp only at HW
        have HW := Lib.hid HW
        have HK3 := Lib.hid hk3
        clear hk3
        go_upto_region 8 with (go_at_call 98; refine HW.out.mono ?_; rintro e w4 ⟨rfl, hk4⟩)
        have HL4 := Lib.hid (HL.out.kept_by (HK3.out.trans hk4))
        obtain ⟨wa, HWA⟩ : ∃ x, Hid (w4.alloc (.cells #[.int .i64 (ya : Int), .int .i64 (yb : Int), .int .i64 (yc : Int)] 91 (0, 0)) = x) := ⟨_, rfl⟩
        have hy : WtAt wa w4.heap.size ⟨ya, yb, yc⟩ := by rw [← HWA.out]; exact newIn w4 _
        have hka : Kept (fun _ => False) w4 wa := by rw [← HWA.out]; exact (Kept.refl _ w4).alloc _
        have HLA := Lib.hid (HL4.out.kept_by hka)
        have HY := Lib.hid hy
        have hne : w.heap.size + 2 < w4.heap.size := by
          have h1 := HL4.out.at_
          have := (Array.getElem?_eq_some_iff.1 h1).1
          omega
        clear hy hka
        rw [HWA.out]
        clear hk4 p0
        cases done with
        | false =>
          have hn2 : (if (!false || wLt ⟨xa, xb, xc⟩ ⟨ya, yb, yc⟩) = true then ((⟨ya, yb, yc⟩ : PWt), true) else ((⟨xa, xb, xc⟩ : PWt), false)) = (⟨ya, yb, yc⟩, true) := rfl
          rw [hn2] at hnx
          clear hn2
          obtain ⟨x1, x2, x3⟩ := HLA.out.at_.ints
          obtain ⟨y1, y2, y3⟩ := HY.out.ints
          have fz := freeIn HLA.out.at_
          have f0 := fz 0
          have f1 := fz 1
          have f2 := fz 2
          simp only at x1 x2 x3 y1 y2 y3
          clear fz
          go_wp2_with fail
          go_quiet (fail)
          go_wp2_with fail
          go_roundw
          case measure => simp [intOf]; omega
          case rel => exact ⟨j + 1, _, by omega, by go_num, by trivial, Lib.hid ((HLA.out.drewN nq).put ya yb yc HYL.out true), hnx⟩
        | true =>
          have HC : Hid (∀ n, Calls Tryz.prog 64 #[.slice (some ⟨w4.heap.size, 0, none⟩) 3 3, .slice (some ⟨w.heap.size + 2, 0, none⟩) 3 3] (wa.drewN n) fun e w' => e = .returned (.int .i64 (cmp3 ⟨ya, yb, yc⟩ ⟨xa, xb, xc⟩)) ∧ w' = wa.drewN n) := Lib.hid (fun n => compare3_any (wa.drewN n) w4.heap.size (w.heap.size + 2) ⟨ya, yb, yc⟩ ⟨xa, xb, xc⟩ HY.out.ints HLA.out.at_.ints HYL.out HLA.out.low)
          obtain ⟨lt, HLT⟩ : ∃ b, Hid (wLt ⟨xa, xb, xc⟩ ⟨ya, yb, yc⟩ = b) := ⟨_, rfl⟩
          obtain ⟨x1, x2, x3⟩ := HLA.out.at_.ints
          obtain ⟨y1, y2, y3⟩ := HY.out.ints
          have fz := freeIn HLA.out.at_
          have f0 := fz 0
          have f1 := fz 1
          have f2 := fz 2
          simp only at x1 x2 x3 y1 y2 y3
          clear fz
          cases lt with
          | true =>
            have hn2 : (if (!true || true) = true then ((⟨ya, yb, yc⟩ : PWt), true) else ((⟨xa, xb, xc⟩ : PWt), true)) = (⟨ya, yb, yc⟩, true) := rfl
            rw [HLT.out, hn2] at hnx
            clear hn2
            have hc : cmp3 ⟨ya, yb, yc⟩ ⟨xa, xb, xc⟩ = 1 := by unfold cmp3; rw [HLT.out]; rfl
            rw [hc] at HC
            clear hc
            go_wp2_with fail
            go_quiet ((go_at_call 64; exact Calls.quiet_of_same (HC.out _)))
            go_wp2_with fail
            go_roundw
            case measure => simp [intOf]; omega
            case rel => exact ⟨j + 1, _, by omega, by go_num, by trivial, Lib.hid ((HLA.out.drewN nq).put ya yb yc HYL.out true), hnx⟩
          | false =>
            have hn2 : (if (!true || false) = true then ((⟨ya, yb, yc⟩ : PWt), true) else ((⟨xa, xb, xc⟩ : PWt), true)) = (⟨xa, xb, xc⟩, true) := rfl
            rw [HLT.out, hn2] at hnx
            clear hn2
            cases hgt : wLt ⟨ya, yb, yc⟩ ⟨xa, xb, xc⟩ with
            | true =>
              have hc : cmp3 ⟨ya, yb, yc⟩ ⟨xa, xb, xc⟩ = -1 := by unfold cmp3; rw [HLT.out, hgt]; rfl
              rw [hc] at HC
              clear hc hgt
              go_wp2_with fail
              go_quiet ((go_at_call 64; exact Calls.quiet_of_same (HC.out _)))
              go_wp2_with fail
              go_roundw
              case measure => simp [intOf]; omega
              case rel => exact ⟨j + 1, _, by omega, by go_num, by trivial, Lib.hid (HLA.out.drewN nq), hnx⟩
            | false =>
              have hc : cmp3 ⟨ya, yb, yc⟩ ⟨xa, xb, xc⟩ = 0 := by unfold cmp3; rw [HLT.out, hgt]; rfl
              rw [hc] at HC
              clear hc hgt
              go_wp2_with fail
              go_quiet ((go_at_call 64; exact Calls.quiet_of_same (HC.out _)))
              go_wp2_with fail
              go_roundw
              case measure => simp [intOf]; omega
              case rel => exact ⟨j + 1, _, by omega, by go_num, by trivial, Lib.hid (HLA.out.drewN nq), hnx⟩
    · obtain ⟨⟨xa, xb, xc⟩, done⟩ := acc
      obtain rfl : j = List.length r.sels := by omega
      have HE : Hid (mBest ns k r.sels = (⟨xa, xb, xc⟩, done)) := Lib.hid (by unfold mBest; rw [← HX0.out, List.take_length])
      obtain ⟨x1, x2, x3⟩ := HL.out.at_.ints
      have hres := HL.out.res
      have fz := freeIn hres
      have f0 := fz 0
      have f1 := fz 1
      have f2 := fz 2
      obtain ⟨q0, q1, q2⟩ := hres.ints
      simp only at x1 x2 x3 q0 q1 q2
      clear fz
      go_wp2_with fail
      have hz : (((wr0.setCell ⟨w.heap.size + 1, 0, none⟩ (.int .i64 (xa : Int))).setCell ⟨w.heap.size + 1, 1, none⟩ (.int .i64 (xb : Int))).setCell ⟨w.heap.size + 1, 2, none⟩ (.int .i64 (xc : Int))).heap[w.heap.size + 1]? = some (.cells #[.int .i64 (xa : Int), .int .i64 (xb : Int), .int .i64 (xc : Int)] 91 (0, 0)) := by
        have := setIn (setIn (setIn hres 0 (.int .i64 (xa : Int))) 1 (.int .i64 (xb : Int))) 2 (.int .i64 (xc : Int))
        simpa using this
      have kz : Kept (fun _ => False) w (((wr0.setCell ⟨w.heap.size + 1, 0, none⟩ (.int .i64 (xa : Int))).setCell ⟨w.heap.size + 1, 1, none⟩ (.int .i64 (xb : Int))).setCell ⟨w.heap.size + 1, 2, none⟩ (.int .i64 (xc : Int))) := ((HL.out.kept.setCell (p := ⟨w.heap.size + 1, 0, none⟩) (.inr (by show w.heap.size ≤ w.heap.size + 1; omega)) _).setCell (p := ⟨w.heap.size + 1, 1, none⟩) (.inr (by show w.heap.size ≤ w.heap.size + 1; omega)) _).setCell (p := ⟨w.heap.size + 1, 2, none⟩) (.inr (by show w.heap.size ≤ w.heap.size + 1; omega)) _
      generalize (((wr0.setCell ⟨w.heap.size + 1, 0, none⟩ (.int .i64 (xa : Int))).setCell ⟨w.heap.size + 1, 1, none⟩ (.int .i64 (xb : Int))).setCell ⟨w.heap.size + 1, 2, none⟩ (.int .i64 (xc : Int))) = wz at *
      have z0 : wz.cell? ⟨w.heap.size + 1, 0, none⟩ = some (.int .i64 (xa : Int)) := cellIn hz 0 rfl
      have z1 : wz.cell? ⟨w.heap.size + 1, 1, none⟩ = some (.int .i64 (xb : Int)) := cellIn hz 1 rfl
      have z2 : wz.cell? ⟨w.heap.size + 1, 2, none⟩ = some (.int .i64 (xc : Int)) := cellIn hz 2 rfl
      refine bodyPost_ret (v := .tuple #[wtVal ⟨xa, xb, xc⟩, .bool done]) (by simp [results, Tryz.results59, go_sem, z0, z1, z2, wtVal]) rfl ?_
      rw [HE.out]
      exact ⟨rfl, kz⟩
end Go.Proofs.YtplbdlgmjehckabGreatDoor

namespace Go.Proofs.YtplbdlgmjehckabGreatDoor
open Go.RowKit
set_option linter.unusedVariables false
set_option linter.unusedSimpArgs false
def flagI (b : Bool) : Int := if b then 1 else 0
theorem flag_any (b : Bool) (w : World) : Calls Tryz.prog 61 #[.bool b] w fun e w' => e = .returned (.int .i64 (flagI b)) ∧ w' = w := by
  cases b with
  | true =>
    go_enter Tryz.func61, Tryz.ntmps61
    go_wp2_with fail
    go_ret
    exact ⟨rfl, rfl⟩
  | false =>
    go_enter Tryz.func61, Tryz.ntmps61
    go_wp2_with fail
    go_ret
    exact ⟨rfl, rfl⟩
def or3 (x y z : Int) : Int := if x = 0 then (if y = 0 then z else y) else x
def IntsO (w : World) (b o : Nat) (x y z : Int) : Prop := w.cell? ⟨b, o, none⟩ = some (.int .i64 x) ∧ w.cell? ⟨b, o + 1, none⟩ = some (.int .i64 y) ∧ w.cell? ⟨b, o + 2, none⟩ = some (.int .i64 z)
theorem ints_new (w : World) (x y z : Int) : IntsO (w.alloc (.cells #[.int .i64 x, .int .i64 y, .int .i64 z] 3 (0, 0))).drew w.heap.size 0 x y z :=
  ⟨cellIn (newIn w (.cells #[.int .i64 x, .int .i64 y, .int .i64 z] 3 (0, 0))) 0 rfl, cellIn (newIn w (.cells #[.int .i64 x, .int .i64 y, .int .i64 z] 3 (0, 0))) 1 rfl, cellIn (newIn w (.cells #[.int .i64 x, .int .i64 y, .int .i64 z] 3 (0, 0))) 2 rfl⟩
theorem ints_step {w : World} {b o : Nat} {x y z : Int} (h : IntsO w b o x y z) {k : Nat} (hk : k < 3) : ∃ u : Int, w.cell? ⟨b, o + k, none⟩ = some (.int .i64 u) ∧ (k = 0 → u = x) ∧ (k = 1 → u = y) ∧ (k = 2 → u = z) := by
  obtain ⟨h0, h1, h2⟩ := h
  rcases (by omega : k = 0 ∨ k = 1 ∨ k = 2) with rfl | rfl | rfl
  · exact ⟨x, h0, fun _ => rfl, by omega, by omega⟩
  · exact ⟨y, h1, by omega, fun _ => rfl, by omega⟩
  · exact ⟨z, h2, by omega, by omega, fun _ => rfl⟩
set_option maxRecDepth 100000 in
set_option maxHeartbeats 1600000 in
theorem or_any (w : World) (b : Nat) (x y z : Int) (h : IntsO w b 0 x y z) :
    Calls Tryz.prog 62 #[.slice (some ⟨b, 0, none⟩) 3 3] w fun e w' => e = .returned (.int .i64 (or3 x y z)) ∧ Kept (fun _ => False) w w' := by
  have H := Lib.hid h
  clear h
  go_enter Tryz.func62, Tryz.ntmps62
  go_wp2_with fail
  go_loopw [8] (fun i wr => ∃ k : Nat, k ≤ 3 ∧ i = .int .i64 (k : Int) ∧ wr = w ∧ Hid ((0 < k → x = 0) ∧ (1 < k → y = 0) ∧ (2 < k → z = 0))) (fun i _ => 3 - (intOf i).toNat)
  case atStart => exact ⟨0, by omega, rfl, rfl, Lib.hid ⟨by omega, by omega, by omega⟩⟩
  case round =>
    obtain ⟨k, hk, rfl, rfl, HS⟩ := hrel
    by_cases hlt : k < 3
    · obtain ⟨u, c, u0, u1, u2⟩ := ints_step H.out hlt
      have HU := Lib.hid (And.intro u0 (And.intro u1 u2))
      have ed : decide ((k : Int) < 3) = true := by simp; omega
      have ee : decide (3 ≤ (k : Int)) = false := by simp; omega
      rw [Nat.zero_add] at c
      clear u0 u1 u2
      by_cases g : u = 0
      · subst g
        go_wp2_with fail
        go_roundw
        case measure => simp [intOf]; omega
        case rel =>
          refine ⟨k + 1, by omega, by go_num, by trivial, Lib.hid ?_⟩
          obtain ⟨s0, s1, s2⟩ := HS.out
          obtain ⟨u0, u1, u2⟩ := HU.out
          refine ⟨fun _ => ?_, fun _ => ?_, fun _ => ?_⟩
          · by_cases h : k = 0
            · exact (u0 h).symm
            · exact s0 (by omega)
          · by_cases h : k = 1
            · exact (u1 h).symm
            · exact s1 (by omega)
          · by_cases h : k = 2
            · exact (u2 h).symm
            · exact s2 (by omega)
      · have e0 : (u != 0) = true := by simpa using g
        have hr : Hid (u = or3 x y z) := Lib.hid (by
          obtain ⟨s0, s1, s2⟩ := HS.out
          obtain ⟨u0, u1, u2⟩ := HU.out
          unfold or3
          rcases (by omega : k = 0 ∨ k = 1 ∨ k = 2) with h | h | h
          · have := u0 h
            rw [if_neg (by rw [← this]; exact g)]; exact this
          · have := u1 h
            rw [if_pos (s0 (by omega)), if_neg (by rw [← this]; exact g)]; exact this
          · have := u2 h
            rw [if_pos (s0 (by omega)), if_pos (s1 (by omega))]; exact this)
        clear g
        go_wp2_with fail
        go_ret
        exact ⟨reti hr.out, Kept.refl _ _⟩
    · obtain rfl : k = 3 := by omega
      go_wp2_with fail
      go_ret
      refine ⟨reti ?_, Kept.refl _ _⟩
      obtain ⟨s0, s1, s2⟩ := HS.out
      unfold or3
      rw [if_pos (s0 (by omega)), if_pos (s1 (by omega)), s2 (by omega)]
def IntsAtO (w : World) (b o : Nat) (x : PWt) : Prop := IntsO w b o (x.a : Int) (x.b : Int) (x.c : Int)
theorem cmpo_step {w : World} {b1 o1 b2 o2 : Nat} {x y : PWt} {n : Nat} (h1 : IntsAtO w b1 o1 x) (h2 : IntsAtO w b2 o2 y) (hx : x.low n) (hy : y.low n) {k : Nat} (hk : k < 3) (hs : Same3 x y k) :
    ∃ u v : Nat, w.cell? ⟨b1, o1 + k, none⟩ = some (.int .i64 (u : Int)) ∧ w.cell? ⟨b2, o2 + k, none⟩ = some (.int .i64 (v : Int)) ∧ u ≤ n ∧ v ≤ n ∧ (u < v → wLt y x = false ∧ wLt x y = true) ∧ (v < u → wLt y x = true) ∧ (u = v → Same3 x y (k + 1)) := by
  obtain ⟨p0, p1, p2⟩ := h1
  obtain ⟨q0, q1, q2⟩ := h2
  obtain ⟨l0, l1, l2⟩ := hx
  obtain ⟨m0, m1, m2⟩ := hy
  obtain ⟨s0, s1, s2⟩ := hs
  rcases (by omega : k = 0 ∨ k = 1 ∨ k = 2) with rfl | rfl | rfl
  · refine ⟨_, _, p0, q0, l0, m0, fun h => ?_, fun h => ?_, fun h => ⟨fun _ => h, by omega, by omega⟩⟩
    · constructor <;> (simp [wLt]; omega)
    · simp [wLt]; omega
  · have e0 := s0 (by omega)
    refine ⟨_, _, p1, q1, l1, m1, fun h => ?_, fun h => ?_, fun h => ⟨fun _ => e0, fun _ => h, by omega⟩⟩
    · constructor <;> (simp [wLt]; omega)
    · simp [wLt]; omega
  · have e0 := s0 (by omega)
    have e1 := s1 (by omega)
    refine ⟨_, _, p2, q2, l2, m2, fun h => ?_, fun h => ?_, fun h => ⟨fun _ => e0, fun _ => e1, fun _ => h⟩⟩
    · constructor <;> (simp [wLt]; omega)
    · simp [wLt]; omega
set_option maxRecDepth 100000 in
set_option maxHeartbeats 1600000 in
theorem compareo_any (w : World) (b1 o1 b2 o2 : Nat) (x y : PWt) (h1 : IntsAtO w b1 o1 x) (h2 : IntsAtO w b2 o2 y) (hx : x.low 1048576) (hy : y.low 1048576) :
    Calls Tryz.prog 64 #[.slice (some ⟨b1, o1, none⟩) 3 3, .slice (some ⟨b2, o2, none⟩) 3 3] w fun e w' => e = .returned (.int .i64 (cmp3 x y)) ∧ w' = w := by
  have H1 := Lib.hid h1
  have H2 := Lib.hid h2
  have HX := Lib.hid hx
  have HY := Lib.hid hy
  clear h1 h2 hx hy
  go_enter Tryz.func64, Tryz.ntmps64
  go_wp2_with fail
  go_loopw [11] (fun i wr => ∃ k : Nat, k ≤ 3 ∧ i = .int .i64 k ∧ wr = w ∧ Hid (Same3 x y k)) (fun i _ => 3 - (intOf i).toNat)
  case atStart => exact ⟨0, by omega, rfl, rfl, Lib.hid ⟨by omega, by omega, by omega⟩⟩
  case round =>
    obtain ⟨k, hk, rfl, rfl, HS⟩ := hrel
    by_cases hlt : k < 3
    · obtain ⟨u, v, c1, c2, hu, hv, hA, hB, hC⟩ := cmpo_step H1.out H2.out HX.out HY.out hlt HS.out
      have HA := Lib.hid hA
      have HB := Lib.hid hB
      have HC := Lib.hid hC
      clear hA hB hC
      have HK := Lib.hid (Tryz.cmp_Compare_int (u : Int) (v : Int) wr)
      have ed : decide ((k : Int) < 3) = true := by simp; omega
      have ee : decide (3 ≤ (k : Int)) = false := by simp; omega
      by_cases g1 : u < v
      · have e1 : Lib.compareInt (u : Int) (v : Int) = -1 := by unfold Lib.compareInt; rw [if_pos (by omega)]
        rw [e1] at HK
        clear e1
        go_wp2_with (go_at_call 63; refine HK.out.mono ?_; rintro e w2 ⟨rfl, rfl⟩)
        go_ret
        exact ⟨by unfold cmp3; rw [(HA.out g1).1, (HA.out g1).2]; rfl, rfl⟩
      · by_cases g2 : v < u
        · have e1 : Lib.compareInt (u : Int) (v : Int) = 1 := by unfold Lib.compareInt; rw [if_neg (by omega), if_pos (by omega)]
          rw [e1] at HK
          clear e1
          go_wp2_with (go_at_call 63; refine HK.out.mono ?_; rintro e w2 ⟨rfl, rfl⟩)
          go_ret
          exact ⟨by unfold cmp3; rw [HB.out g2]; rfl, rfl⟩
        · have e1 : Lib.compareInt (u : Int) (v : Int) = 0 := by unfold Lib.compareInt; rw [if_neg (by omega), if_neg (by omega)]
          rw [e1] at HK
          clear e1
          go_wp2_with (go_at_call 63; refine HK.out.mono ?_; rintro e w2 ⟨rfl, rfl⟩)
          go_roundw
          case measure => simp [intOf]; omega
          case rel => exact ⟨k + 1, by omega, by go_num, trivial, Lib.hid (HC.out (by omega))⟩
    · obtain rfl : k = 3 := by omega
      go_wp2_with fail
      go_ret
      refine ⟨?_, rfl⟩
      obtain ⟨s0, s1, s2⟩ := HS.out
      obtain ⟨xa, xb, xc⟩ := x
      obtain ⟨ya, yb, yc⟩ := y
      have h1 := s0 (by omega)
      have h2 := s1 (by omega)
      have h3 := s2 (by omega)
      simp only at h1 h2 h3
      subst h1; subst h2; subst h3
      simp [cmp3, wLt]
def claimCells (c : PClaim) : List Value := [.string (str c.d.name), .string (str c.d.val), .bool c.d.strong, .bool c.own, .int .i64 (c.w.a : Int), .int .i64 (c.w.b : Int), .int .i64 (c.w.c : Int)]
def ClaimAt (w : World) (b o : Nat) (c : PClaim) : Prop := ∀ j v, (claimCells c)[j]? = some v → w.cell? ⟨b, o + j, none⟩ = some v
theorem ClaimAt.kept {w w' : World} {b o : Nat} {c : PClaim} {S : Nat → Prop} (h : ClaimAt w b o c) (hk : Kept S w w') (hs : ¬ S b) : ClaimAt w' b o c := fun j v hj => hk.cell hs (h j v hj)
def ordI (x y : PClaim) : Int := or3 (Lib.compareInt (flagI x.d.strong) (flagI y.d.strong)) (Lib.compareInt (flagI x.own) (flagI y.own)) (cmp3 x.w y.w)
theorem ord_beats (x y : PClaim) : 0 ≤ ordI x y ↔ beats x y = true := by
  obtain ⟨⟨_, _, s1⟩, o1, w1⟩ := x
  obtain ⟨⟨_, _, s2⟩, o2, w2⟩ := y
  unfold ordI or3 beats cmp3 Lib.compareInt flagI
  simp only
  cases hA : wLt w2 w1 with
  | true =>
    have hB := wLt_asymm hA
    cases s1 <;> cases s2 <;> cases o1 <;> cases o2 <;> simp [hB]
  | false =>
    cases hB : wLt w1 w2 <;> cases s1 <;> cases s2 <;> cases o1 <;> cases o2 <;> simp
set_option maxRecDepth 100000 in
set_option maxHeartbeats 3200000 in
theorem order_any (w : World) (b1 o1 b2 o2 : Nat) (x y : PClaim) (h1 : ClaimAt w b1 o1 x) (h2 : ClaimAt w b2 o2 y) (hx : x.w.low 1048576) (hy : y.w.low 1048576) :
    Calls Tryz.prog 29 #[.pointer (some ⟨b1, o1, none⟩), .pointer (some ⟨b2, o2, none⟩)] w fun e w' => e = .returned (.int .i64 (ordI x y)) ∧ Kept (fun _ => False) w w' := by
  have x2 : w.cell? ⟨b1, o1 + 2, none⟩ = some (.bool x.d.strong) := h1 2 _ rfl
  have x3 : w.cell? ⟨b1, o1 + 3, none⟩ = some (.bool x.own) := h1 3 _ rfl
  have y2 : w.cell? ⟨b2, o2 + 2, none⟩ = some (.bool y.d.strong) := h2 2 _ rfl
  have y3 : w.cell? ⟨b2, o2 + 3, none⟩ = some (.bool y.own) := h2 3 _ rfl
  have HXI : Hid (IntsAtO w b1 (o1 + 4) x.w) := Lib.hid ⟨h1 4 _ rfl, h1 5 _ rfl, h1 6 _ rfl⟩
  have HYI : Hid (IntsAtO w b2 (o2 + 4) y.w) := Lib.hid ⟨h2 4 _ rfl, h2 5 _ rfl, h2 6 _ rfl⟩
  obtain ⟨r, HR⟩ : ∃ r, Hid (ordI x y = r) := ⟨_, rfl⟩
  rw [HR.out]
  have HX := Lib.hid hx
  have HY := Lib.hid hy
  clear h1 h2 hx hy
  go_enter Tryz.func29, Tryz.ntmps29
  go_upto_region 2 with fail
  go_region_held3 (fun w' => w'.cell? ⟨b1, o1 + 2, none⟩ = some (.bool x.d.strong) ∧ w'.cell? ⟨b1, o1 + 3, none⟩ = some (.bool x.own) ∧ w'.cell? ⟨b2, o2 + 2, none⟩ = some (.bool y.d.strong) ∧ w'.cell? ⟨b2, o2 + 3, none⟩ = some (.bool y.own)) (first | exact ⟨hk8.cell id (cell_alloc x2 _), hk8.cell id (cell_alloc x3 _), hk8.cell id (cell_alloc y2 _), hk8.cell id (cell_alloc y3 _)⟩ | exact ⟨x2, x3, y2, y3⟩ | exact ⟨cell_alloc x2 _, cell_alloc x3 _, cell_alloc y2 _, cell_alloc y3 _⟩ | go_keep)
    ((first
      | (go_at_call 61; refine (flag_any _ _).mono ?_; rintro e w5 ⟨rfl, rfl⟩)
      | (go_at_call 63; refine (Tryz.cmp_Compare_int _ _ _).mono ?_; rintro e w6 ⟨rfl, rfl⟩)
      | (go_at_call 64; refine (compareo_any _ _ _ _ _ x.w y.w (by exact HXI.out) (by exact HYI.out) HX.out HY.out).mono ?_; rintro e w7 ⟨rfl, rfl⟩)
      | (go_at_call 62; refine (or_any _ _ (Lib.compareInt (flagI x.d.strong) (flagI y.d.strong)) (Lib.compareInt (flagI x.own) (flagI y.own)) (cmp3 x.w y.w) (ints_new w _ _ _)).mono ?_; rintro e w8 ⟨rfl, hk8⟩)))
  all_goals
    go_wp2_with fail
    go_ret
    exact ⟨reti HR.out, (((Kept.refl _ w).alloc _).drew).trans hk8⟩
set_option maxRecDepth 100000 in
theorem counts_any (w : World) (b o : Nat) (r : PRule) (mv : Value) (media : List B) (h : w.cell? ⟨b, o, none⟩ = some (.string (str r.media))) (hm : StrsAt w mv media) :
    Calls Tryz.prog 60 #[.pointer (some ⟨b, o, none⟩), mv] w fun e w' => e = .returned (.bool (counts r media)) ∧ Kept (fun _ => False) w w' := by
  obtain ⟨q, HQ⟩ : ∃ q, Hid (counts r media = q) := ⟨_, rfl⟩
  rw [HQ.out]
  cases he : r.media.isEmpty with
  | true =>
    have hr : Hid (true = q) := Lib.hid (by rw [← HQ.out]; unfold counts; rw [he]; rfl)
    have e1 : (r.media == []) = true := by simpa using he
    clear he
    go_enter Tryz.func60, Tryz.ntmps60
    go_wp2_with fail
    go_ret
    exact ⟨retb hr.out, Kept.refl _ _⟩
  | false =>
    have hr : media.contains r.media = q := by rw [← HQ.out]; unfold counts; rw [he]; simp
    have e1 : (r.media == []) = false := by simpa using he
    have HC := contains_reads w mv media r.media hm
    rw [hr] at HC
    replace HC := Lib.hid HC
    clear he hr
    go_enter Tryz.func60, Tryz.ntmps60
    go_wp2_with (go_at_call 99; refine HC.out.mono ?_; rintro e w2 ⟨rfl, hk2⟩)
    go_ret
    exact ⟨rfl, hk2⟩
end Go.Proofs.YtplbdlgmjehckabGreatDoor

namespace Go.Proofs.YtplbdlgmjehckabGreatDoor
open Go.RowKit
set_option linter.unusedVariables false
set_option linter.unusedSimpArgs false
theorem hasPrefix_any (l p : B) (w : World) :
    Calls Tryz.prog 131 #[.string (str l), .string (str p)] w fun e w' => e = .returned (.bool (p.isPrefixOf l)) ∧ w' = w :=
  Tryz.strings_HasPrefix (str l) (str p) w
theorem index_any (l sub : B) (m : Int) (w : World) (hl : l.length < 4294967281) (hm : w.cell? ⟨0, 0, none⟩ = some (.int .i64 m)) :
    Calls Tryz.prog 95 #[.string (str l), .string (str sub)] w fun e w' => e = .returned (.int .i64 (idx (findSub sub l))) ∧ w' = w :=
  (Tryz.strings_Index (str l) (str sub) m w hl hm).mono fun e w' ⟨he, hw⟩ => ⟨by rw [he, str_data, str_data, index_findSub]; rfl, hw⟩
theorem index_none (l sub : B) (m : Int) (w : World) (hl : l.length < 4294967281) (hm : w.cell? ⟨0, 0, none⟩ = some (.int .i64 m)) (hf : findSub sub l = none) :
    Calls Tryz.prog 95 #[.string (str l), .string (str sub)] w fun e w' => e = .returned (.int .i64 (-1)) ∧ w' = w := by
  have := index_any l sub m w hl hm; rw [hf] at this; exact this
theorem index_some {k : Nat} (l sub : B) (m : Int) (w : World) (hl : l.length < 4294967281) (hm : w.cell? ⟨0, 0, none⟩ = some (.int .i64 m)) (hf : findSub sub l = some k) :
    Calls Tryz.prog 95 #[.string (str l), .string (str sub)] w fun e w' => e = .returned (.int .i64 (k : Int)) ∧ w' = w := by
  have := index_any l sub m w hl hm; rw [hf] at this; exact this
end Go.Proofs.YtplbdlgmjehckabGreatDoor

namespace Go.Proofs.YtplbdlgmjehckabGreatDoor
open Go.RowKit
set_option linter.unusedVariables false
set_option linter.unusedSimpArgs false
def SdAt (w : World) (b : Nat) (s : B) (at_ : Nat) : Prop :=
  w.heap[b]? = some (.cells #[.string (str s), .int .i64 (at_ : Int)] 162 (0, 0)) ∧ at_ ≤ s.length ∧ s.length ≤ 4000
def soops (f : Flt) : Value := .iface 200 (.agg #[.int .i64 (f.err : Int), .int .i64 (f.pos : Int)])
@[reducible] def sthrown (f : Flt) : Ending := .panicked [{ v := soops f, recovered := false }]
section
variable {w w' : World} {b : Nat} {s : B} {a : Nat}
theorem SdAt.kept {S : Nat → Prop} (h : SdAt w b s a) (hk : Kept S w w') (hs : ¬ S b) : SdAt w' b s a := ⟨hk.heap hs h.1, h.2⟩
theorem SdAt.quiet (h : SdAt w b s a) (hk : Qt w w') : SdAt w' b s a := h.kept (S := fun _ => False) (hk.kept _) id
theorem SdAt.drewN (h : SdAt w b s a) (n : Nat) : SdAt (w.drewN n) b s a := h
theorem SdAt.drew (h : SdAt w b s a) : SdAt w.drew b s a := h
theorem SdAt.alloc (h : SdAt w b s a) (o : Obj) : SdAt (w.alloc o) b s a := ⟨oldIn h.1 o, h.2⟩
theorem SdAt.set (h : SdAt w b s a) {x : Int} {a' : Nat} (hx : x = (a' : Int)) (hl : a' ≤ s.length) : SdAt (w.setCell ⟨b, 1, none⟩ (.int .i64 x)) b s a' := by
  refine ⟨?_, hl, h.2.2⟩
  subst hx
  have := setIn h.1 1 (.int .i64 (a' : Int))
  simpa using this
theorem SdAt.other (h : SdAt w b s a) {p : Addr} {x : Value} (hp : b ≠ p.block) : SdAt (w.setCell p x) b s a := ⟨otherIn h.1 p x hp, h.2⟩
theorem SdAt.c0 (h : SdAt w b s a) : w.cell? ⟨b, 0, none⟩ = some (.string (str s)) := cellIn h.1 0 rfl
theorem SdAt.c1 (h : SdAt w b s a) : w.cell? ⟨b, 1, none⟩ = some (.int .i64 (a : Int)) := cellIn h.1 1 rfl
theorem SdAt.free (h : SdAt w b s a) (k : Nat) : w.frozen? ⟨b, k, none⟩ = false := freeIn h.1 k
theorem SdAt.lt (h : SdAt w b s a) : b < w.heap.size := ltIn h.1
end
def SSum {α : Type} (X : Ans (α × B × Nat)) (w : World) (b : Nat) (s : B) (R : World → α → Ending → Prop) (e : Ending) (w' : World) : Prop :=
  (∃ f, e = sthrown f ∧ Kept (· = b) w w' ∧ Hid (X = .bad f)) ∨ (∃ v at', R w' v e ∧ Kept (· = b) w w' ∧ SdAt w' b s at' ∧ Hid (X = .ok (v, s.drop at', at')))
set_option maxHeartbeats 400000 in
theorem sfail_any (err : Nat) (w : World) (b : Nat) (s : B) (at_ : Nat) (h : SdAt w b s at_) :
    Calls Tryz.prog 76 #[.pointer (some ⟨b, 0, none⟩), .int .i64 (err : Int)] w fun e w' => e = sthrown ⟨err, at_⟩ ∧ Qt w w' := by
  have h1 := h.c1
  clear h
  go_enter Tryz.func76, Tryz.ntmps76
  go_wp2
  exact ⟨rfl, rfl, 0, rfl⟩
set_option maxHeartbeats 400000 in
theorem sis_any (word : B) (w : World) (b : Nat) (s : B) (at_ : Nat) (h : SdAt w b s at_) :
    Calls Tryz.prog 143 #[.pointer (some ⟨b, 0, none⟩), .string (str word)] w fun e w' => e = .returned (.bool (word.isPrefixOf (s.drop at_))) ∧ ∃ n, w' = w.drewN n := by
  have h0 := h.c0
  have h1 := h.c1
  have hl := h.2.1
  have hm := h.2.2
  clear h
  go_enter Tryz.func143, Tryz.ntmps143
  go_wp2
  go_quiet ((go_at_call 131; refine Calls.quiet_of_same (hasPrefix_any _ _ _)))
  go_wp2
  go_ret
  exact ⟨rfl, _, rfl⟩
theorem sis_is (r : Bool) (word : B) (w : World) (b : Nat) (s : B) (at_ : Nat) (h : SdAt w b s at_) (hr : word.isPrefixOf (s.drop at_) = r) :
    Calls Tryz.prog 143 #[.pointer (some ⟨b, 0, none⟩), .string (str word)] w fun e w' => e = .returned (.bool r) ∧ ∃ n, w' = w.drewN n := by
  have := sis_any word w b s at_ h; rw [hr] at this; exact this
set_option maxHeartbeats 400000 in
theorem seat_no (word : B) (w : World) (b : Nat) (s : B) (at_ : Nat) (h : SdAt w b s at_) (hp : word.isPrefixOf (s.drop at_) = false) :
    Calls Tryz.prog 118 #[.pointer (some ⟨b, 0, none⟩), .string (str word)] w fun e w' => e = .returned (.bool false) ∧ ∃ n, w' = w.drewN n := by
  have H := Lib.hid h
  have HP := Lib.hid hp
  clear h hp
  go_enter Tryz.func118, Tryz.ntmps118
  go_wp2_with fail
  refine (sis_is false word _ _ _ _ H.out HP.out).mono ?_
  rintro e w1 ⟨rfl, n1, rfl⟩
  go_wp2_with fail
  go_ret
  exact ⟨rfl, _, rfl⟩
set_option maxHeartbeats 400000 in
theorem seat_yes (word : B) (w : World) (b : Nat) (s : B) (at_ : Nat) (h : SdAt w b s at_) (hp : word.isPrefixOf (s.drop at_) = true) :
    Calls Tryz.prog 118 #[.pointer (some ⟨b, 0, none⟩), .string (str word)] w fun e w' => e = .returned (.bool true) ∧ Kept (· = b) w w' ∧ SdAt w' b s (at_ + word.length) := by
  have H := Lib.hid h
  have HP := Lib.hid hp
  have hl : at_ + word.length ≤ s.length := by
    have := (List.isPrefixOf_iff_prefix.1 hp).length_le
    simp only [List.length_drop] at this
    have := h.2.1
    by_cases hw : word = []
    · subst hw; simpa using h.2.1
    · have : 0 < word.length := List.length_pos_iff.2 hw
      omega
  have hm := h.2.2
  clear h hp
  go_enter Tryz.func118, Tryz.ntmps118
  go_wp2_with fail
  refine (sis_is true word _ _ _ _ H.out HP.out).mono ?_
  rintro e w1 ⟨rfl, n1, rfl⟩
  have H1 := Lib.hid (H.out.drewN n1)
  have c1 := (H.out.drewN n1).c1
  have f1 := (H.out.drewN n1).free 1
  go_wp2_with fail
  go_ret
  exact ⟨rfl, ((Kept.refl (· = b) w).drewN n1).setCell (p := ⟨b, 1, none⟩) (.inl rfl) _, H1.out.set (by omega) hl⟩
set_option maxHeartbeats 400000 in
theorem smust_bad (word : B) (w : World) (b : Nat) (s : B) (at_ : Nat) (h : SdAt w b s at_) (hp : word.isPrefixOf (s.drop at_) = false) :
    Calls Tryz.prog 120 #[.pointer (some ⟨b, 0, none⟩), .string (str word)] w fun e w' => e = sthrown ⟨2, at_⟩ ∧ Qt w w' := by
  have H := Lib.hid h
  have HP := Lib.hid hp
  clear h hp
  go_enter Tryz.func120, Tryz.ntmps120
  go_wp2_with fail
  refine (seat_no word _ _ _ _ H.out HP.out).mono ?_
  rintro e w1 ⟨rfl, n1, rfl⟩
  have H1 := Lib.hid (H.out.drewN n1)
  go_wp2_with fail
  refine (sfail_any 2 _ _ _ _ H1.out).mono ?_
  rintro e w2 ⟨rfl, hq2⟩
  have HQ := Lib.hid (Qt.trans ⟨n1, rfl⟩ hq2)
  clear hq2
  go_wp2_with fail
  exact ⟨rfl, rfl, HQ.out⟩
set_option maxHeartbeats 400000 in
theorem smust_ok (word : B) (w : World) (b : Nat) (s : B) (at_ : Nat) (h : SdAt w b s at_) (hp : word.isPrefixOf (s.drop at_) = true) :
    Calls Tryz.prog 120 #[.pointer (some ⟨b, 0, none⟩), .string (str word)] w fun e w' => e = .returned (.tuple #[]) ∧ Kept (· = b) w w' ∧ SdAt w' b s (at_ + word.length) := by
  have H := Lib.hid h
  have HP := Lib.hid hp
  clear h hp
  go_enter Tryz.func120, Tryz.ntmps120
  go_wp2_with fail
  refine (seat_yes word _ _ _ _ H.out HP.out).mono ?_
  rintro e w1 ⟨rfl, hk, hr⟩
  have HK := Lib.hid hk
  have HR := Lib.hid hr
  clear hk hr
  go_wp2_with fail
  go_end0
  exact ⟨rfl, HK.out, HR.out⟩
theorem smust_sum (word : B) (w : World) (b : Nat) (s : B) (at_ : Nat) (h : SdAt w b s at_) :
    Calls Tryz.prog 120 #[.pointer (some ⟨b, 0, none⟩), .string (str word)] w fun e w' =>
      (∃ f, e = sthrown f ∧ Kept (· = b) w w' ∧ Hid (pMust word (s.drop at_) at_ = .bad f)) ∨ (∃ at', e = .returned (.tuple #[]) ∧ Kept (· = b) w w' ∧ SdAt w' b s at' ∧ Hid (pMust word (s.drop at_) at_ = .ok (s.drop at', at'))) := by
  cases hp : word.isPrefixOf (s.drop at_) with
  | false => exact (smust_bad word w b s at_ h hp).mono fun e w' ⟨h1, h2⟩ => .inl ⟨_, h1, h2.kept _, Lib.hid (by unfold pMust; rw [hp]; rfl)⟩
  | true => exact (smust_ok word w b s at_ h hp).mono fun e w' ⟨h1, h2, h3⟩ => .inr ⟨_, h1, h2, h3, Lib.hid (by unfold pMust; rw [if_pos hp, List.drop_drop])⟩
set_option maxRecDepth 100000 in
set_option maxHeartbeats 1600000 in
theorem sblank_sum (w : World) (b : Nat) (s : B) (at_ : Nat) (m : Int) (h : SdAt w b s at_) (hm : w.cell? ⟨0, 0, none⟩ = some (.int .i64 m)) (hb0 : 0 < b) :
    Calls Tryz.prog 117 #[.pointer (some ⟨b, 0, none⟩)] w fun e w' =>
      (∃ f, e = sthrown f ∧ Kept (· = b) w w' ∧ Hid (sGap (s.drop at_) at_ = .bad f)) ∨ (∃ at', e = .returned (.bool (decide (at_ < at'))) ∧ Kept (· = b) w w' ∧ SdAt w' b s at' ∧ Hid (sGap (s.drop at_) at_ = .ok (s.drop at', at'))) := by
  obtain ⟨r, HR⟩ : ∃ r, Hid (sGap (s.drop at_) at_ = r) := ⟨_, rfl⟩
  rw [HR.out]
  have H := Lib.hid h
  have HM := Lib.hid hm
  have c1 := h.c1
  have hl := h.2.1
  have hmx := h.2.2
  clear h hm
  go_enter Tryz.func117, Tryz.ntmps117
  go_wp2_with fail
  clear c1
  go_loopg [] (s.length - at_) (fun k wr => ∃ at', SdAt wr b s at' ∧ at_ ≤ at' ∧ Hid (Kept (· = b) w wr) ∧ Hid (sGap (s.drop at') at' = r) ∧ k = s.length - at')
  case atStart => exact ⟨at_, H.out, Nat.le_refl _, Lib.hid (Kept.refl _ _), HR, rfl⟩
  case round =>
    obtain ⟨at', hsd, hle, HK, HG, hk⟩ := hrel
    have HS := Lib.hid hsd
    have c0 := hsd.c0
    have c1 := hsd.c1
    have f1 := hsd.free 1
    have hl' := hsd.2.1
    clear hsd
    have hk0 : Hid (Kept (· = b) w wr.drew) := Lib.hid HK.out.drew
    by_cases hlt : at' < s.length
    · have hd := List.drop_eq_getElem_cons hlt
      have hG := HG.out
      rw [hd, gap_cons, ← hd] at hG
      have HD := Lib.hid hd
      clear hd
      cases e1 : (((s[at']'hlt).toNat : Int) == 32) with
      | true =>
        rw [if_pos (.inl (by simp at e1; omega))] at hG
        have HGN := Lib.hid hG
        clear hG
        have e2 : ∀ x : Bool, ((((s[at']'hlt).toNat : Int) == 32) || x) = true := fun x => by rw [e1]; rfl
        go_wp2_with fail
        go_quiet (fail)
        go_wp2_with fail
        go_quiet (fail)
        go_wp2_with fail
        go_roundg (s.length - (at' + 1))
        case measure => omega
        case rel => exact ⟨at' + 1, ((HS.out.drewN _).set (by omega) (by omega)), by omega, Lib.hid ((HK.out.drewN _).setCell (p := ⟨b, 1, none⟩) (.inl rfl) _), HGN, rfl⟩
      | false =>
        cases e2 : (((s[at']'hlt).toNat : Int) == 10) with
        | true =>
          rw [if_pos (.inr (by simp at e2; omega))] at hG
          have HGN := Lib.hid hG
          clear hG
          go_wp2_with fail
          go_quiet (fail)
          go_wp2_with fail
          go_quiet (fail)
          go_wp2_with fail
          go_roundg (s.length - (at' + 1))
          case measure => omega
          case rel => exact ⟨at' + 1, ((HS.out.drewN _).set (by omega) (by omega)), by omega, Lib.hid ((HK.out.drewN _).setCell (p := ⟨b, 1, none⟩) (.inl rfl) _), HGN, rfl⟩
        | false =>
          rw [if_neg (by simp at e1 e2; omega)] at hG
          have HGN := Lib.hid hG
          clear hG
          go_wp2_with fail
          go_quiet (fail)
          go_wp2_with fail
          go_quiet (fail)
          go_wp2_with fail
          cases hp : gapBegin.isPrefixOf (s.drop at') with
          | false =>
            refine (sis_is false gapBegin _ _ _ _ (HS.out.drewN _) hp).mono ?_
            rintro e w1 ⟨rfl, n1, rfl⟩
            have hgt : decide ((at_ : Int) < (at' : Int)) = decide (at_ < at') := by rw [Bool.eq_iff_iff]; simp
            have hR : Hid (r = .ok (s.drop at', at')) := Lib.hid (by have := HGN.out; rw [hp] at this; exact this.symm)
            clear hp
            go_wp2_with fail
            go_ret
            exact .inr ⟨at', rfl, HK.out.drewN _, HS.out.drewN _, hR⟩
          | true =>
            have HP := Lib.hid hp
            have hp2 : at' + 2 ≤ s.length := by
              have := (List.isPrefixOf_iff_prefix.1 hp).length_le
              rw [List.length_drop] at this
              simp only [gapBegin, List.length_cons, List.length_nil] at this
              omega
            have hG := HGN.out
            rw [hp, if_pos rfl, List.drop_drop] at hG
            have HGM := Lib.hid hG
            refine (sis_is true gapBegin _ _ _ _ (HS.out.drewN _) hp).mono ?_
            rintro e w1 ⟨rfl, hw1⟩
            have hq1 : Qt wr w1 := Qt.trans ⟨_, rfl⟩ hw1
            have HS1 := Lib.hid (HS.out.quiet hq1)
            have HK1 := Lib.hid (HK.out.trans (hq1.kept _))
            clear c0 c1 f1 hw1
            have c0 := HS1.out.c0
            have c1 := HS1.out.c1
            have f1 := HS1.out.free 1
            have hlen : (s.drop (at' + 2)).length < 4294967281 := by rw [List.length_drop]; omega
            have hmr : w1.cell? ⟨0, 0, none⟩ = some (.int .i64 m) := HK1.out.cell (by show ¬ (0 = b); omega) HM.out
            have HMR := Lib.hid hmr
            clear hp hmr hG hq1
            cases hf : findSub gapEnd (s.drop (at' + 2)) with
            | none =>
              have hR : Hid (r = .bad ⟨2, at'⟩) := Lib.hid (by have := HGM.out; rw [hf] at this; exact this.symm)
              go_wp2_with fail
              go_quiet ((go_at_call 95; exact Calls.quiet_of_same (index_none _ gapEnd m _ hlen HMR.out hf)))
              clear hf
              go_wp2_with fail
              refine (sfail_any 2 _ _ _ _ (HS1.out.drewN _)).mono ?_
              rintro e w2 ⟨rfl, hq2⟩
              go_wp2_with fail
              exact ⟨rfl, .inl ⟨_, rfl, (HK1.out.drewN _).trans (hq2.kept _), hR⟩⟩
            | some e =>
              have hfl := findSub_le _ _ _ hf
              rw [List.length_drop] at hfl
              have hsl : gapEnd.length = 2 := rfl
              rw [hsl] at hfl
              have hGE : Hid (sGap (s.drop (at' + (2 + e + 2))) (at' + (2 + e + 2)) = r) := Lib.hid (by have := HGM.out; rw [hf] at this; simp only [List.drop_drop] at this; exact this)
              go_wp2_with fail
              go_quiet ((go_at_call 95; exact Calls.quiet_of_same (index_some _ gapEnd m _ hlen HMR.out hf)))
              clear hf
              go_wp2_with fail
              go_roundg (s.length - (at' + (2 + e + 2)))
              case measure => omega
              case rel => exact ⟨at' + (2 + e + 2), (HS1.out.drewN _).set (by omega) (by omega), by omega, Lib.hid ((HK1.out.drewN _).setCell (p := ⟨b, 1, none⟩) (.inl rfl) _), hGE, rfl⟩
    · have e3 : decide ((at' : Int) < (s.length : Int)) = false := by simp; omega
      have hnil : Hid (s.drop at' = []) := Lib.hid (List.drop_eq_nil_of_le (by omega))
      have hG := HG.out
      rw [hnil.out] at hG
      have hR : Hid (r = .ok (s.drop at', at')) := Lib.hid (by rw [hnil.out]; exact hG.symm)
      have hgt : decide ((at_ : Int) < (at' : Int)) = decide (at_ < at') := by rw [Bool.eq_iff_iff]; simp
      clear hG
      go_wp2_with fail
      go_quiet (fail)
      go_wp2_with fail
      go_ret
      exact .inr ⟨at', rfl, HK.out.drewN _, HS.out.drewN _, hR⟩
end Go.Proofs.YtplbdlgmjehckabGreatDoor

namespace Go.Proofs.YtplbdlgmjehckabGreatDoor
open Go.RowKit
set_option linter.unusedVariables false
set_option linter.unusedSimpArgs false
theorem named_yes {s : B} (h1 : 1 ≤ s.length) (h2 : s.length ≤ 20) (h : ∀ j (h : j < s.length), inName j s[j] = true) : named s = true := by
  unfold named
  have : nameLen s = s.length := by
    have h3 := nameLen_le s
    rcases Nat.lt_or_ge (nameLen s) s.length with h4 | h4
    · have := nameLen_out s h4
      rw [h _ h4] at this; cases this
    · omega
  simp [h1, h2, this]
theorem named_no {s : B} {k : Nat} (hk : k < s.length) (h : inName k s[k] = false) : named s = false := by
  unfold named
  have : nameLen s ≠ s.length := by
    intro e
    obtain ⟨_, h2⟩ := nameLen_in s k (by omega)
    rw [h] at h2; cases h2
  simp [this]
def NamedEnds (w : World) (r : Bool) (e : Ending) (w' : World) : Prop := e = .returned (.bool r) ∧ w' = w
set_option maxHeartbeats 1600000 in
theorem named_any (w : World) (s : B) : Calls Tryz.prog 144 #[.string (str s)] w (NamedEnds w (named s)) := by
  by_cases hl0 : s.length < 1
  · have hsz : (s.length : Int) < 1 := by omega
    go_enter Tryz.func144, Tryz.ntmps144
    go_wp2
    go_ret
    exact ⟨retb (by unfold named; have : ¬ 1 ≤ s.length := by omega
                    simp [this]), rfl⟩
  · by_cases hl20 : 20 < s.length
    · have hsz : ¬ (s.length : Int) < 1 := by omega
      have hsz2 : 20 < (s.length : Int) := by omega
      go_enter Tryz.func144, Tryz.ntmps144
      go_wp2
      go_ret
      exact ⟨retb (by unfold named; have : ¬ s.length ≤ 20 := by omega
                      simp [this]), rfl⟩
    · have hsz : ¬ (s.length : Int) < 1 := by omega
      have hsz2 : ¬ 20 < (s.length : Int) := by omega
      go_enter Tryz.func144, Tryz.ntmps144
      go_wp2
      go_loop [15] (fun k => ∃ j : Nat, j ≤ s.length ∧ k = .int .i64 j ∧ Hid (∀ i (h : i < s.length), i < j → inName i s[i] = true)) (fun k => s.length - (intOf k).toNat)
      case atStart => exact ⟨0, by omega, rfl, fun i h hi => by omega⟩
      case round =>
        obtain ⟨j, hj, rfl, HH⟩ := hrel
        by_cases hlt : j < s.length
        · cases hin : inName j s[j] with
          | true =>
            have hnext : Hid (∀ i (h : i < s.length), i < j + 1 → inName i s[i] = true) := Lib.hid fun i h hi => by
              by_cases e : i = j
              · subst e; exact hin
              · exact HH.out i h (by omega)
            have h4 := inName_yes hin
            clear hin
            rcases h4 with ⟨h5, h6⟩ | ⟨h5, h6, h7⟩ | ⟨h5, h6⟩
            · go_wp2
              go_round
              case rel => exact ⟨j + 1, by omega, by go_num, hnext⟩
              case measure => simp [intOf]; omega
            · have e1 : ((j : Int) == 0) = false := by simp; omega
              have e2 : (((s[j]'hlt).toNat : Int) != 45) = true := by simp; omega
              go_wp2
              go_round
              case rel => exact ⟨j + 1, by omega, by go_num, hnext⟩
              case measure => simp [intOf]; omega
            · have e1 : ((j : Int) == 0) = false := by simp; omega
              have e2 : (((s[j]'hlt).toNat : Int) != 45) = false := by simp; omega
              have e3 : ((s[j]'hlt).toNat : Int) < 48 := by omega
              clear h6
              go_wp2
              go_round
              case rel => exact ⟨j + 1, by omega, by go_num, hnext⟩
              case measure => simp [intOf]; omega
          | false =>
            have hno := named_no hlt hin
            have HNO := Lib.hid hno
            obtain ⟨h5, h6⟩ := inName_no hin
            clear hno hin
            by_cases hj0 : j = 0
            · subst hj0
              clear h6
              rcases h5 with h5 | h5
              all_goals
                go_wp2
                all_goals first
                  | (go_ret; exact ⟨retb HNO.out.symm, rfl⟩)
                  | (exfalso; omega)
            · have h7 := h6.resolve_left hj0
              obtain ⟨h8, h9⟩ := h7
              have e1 : ((j : Int) == 0) = false := by simp; omega
              have e2 : (((s[j]'hlt).toNat : Int) != 45) = true := by simpa using h9
              clear h6 h9
              rcases h5 with h5 | h5 <;> rcases h8 with h8 | h8 <;> (try (exfalso; omega))
              all_goals
                go_wp2
                go_ret
                exact ⟨retb HNO.out.symm, rfl⟩
        · go_wp2
          go_ret
          exact ⟨retb (named_yes (by omega) (by omega) (fun i h => HH.out i h (by omega))).symm, rfl⟩
end Go.Proofs.YtplbdlgmjehckabGreatDoor

