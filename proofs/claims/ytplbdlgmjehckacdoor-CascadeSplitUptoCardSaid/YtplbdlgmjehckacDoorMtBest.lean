/-
  match.Best, over slices.Compare of two weights.
-/
import Derived.Test.YtplbdlgmjehckacDoorMtWeigh
namespace Go.Proofs.YtplbdlgmjehckacDoor
open Go.RowKit
set_option linter.unusedVariables false
set_option linter.unusedSimpArgs false

def IntsAt (w : World) (b : Nat) (x : PWt) : Prop := w.cell? ⟨b, 0, none⟩ = some (.int .i64 (x.a : Int)) ∧ w.cell? ⟨b, 1, none⟩ = some (.int .i64 (x.b : Int)) ∧ w.cell? ⟨b, 2, none⟩ = some (.int .i64 (x.c : Int))
theorem WtAt.ints {w : World} {b : Nat} {x : PWt} (h : WtAt w b x) : IntsAt w b x := ⟨cellIn h 0 rfl, cellIn h 1 rfl, cellIn h 2 rfl⟩

/-- two weights are the same below k -/
def Same3 (x y : PWt) (k : Nat) : Prop := (0 < k → x.a = y.a) ∧ (1 < k → x.b = y.b) ∧ (2 < k → x.c = y.c)
theorem cmp_step {w : World} {b1 b2 : Nat} {x y : PWt} {n : Nat} (h1 : IntsAt w b1 x) (h2 : IntsAt w b2 y) (hx : x.low n) (hy : y.low n) {k : Nat} (hk : k < 3) (hs : Same3 x y k) :
    ∃ u v : Nat, w.cell? ⟨b1, 0 + k, none⟩ = some (.int .i64 (u : Int)) ∧ w.cell? ⟨b2, 0 + k, none⟩ = some (.int .i64 (v : Int)) ∧ u ≤ n ∧ v ≤ n ∧ (u < v → wLt y x = false ∧ wLt x y = true) ∧ (v < u → wLt y x = true) ∧ (u = v → Same3 x y (k + 1)) := by
  obtain ⟨p0, p1, p2⟩ := h1
  obtain ⟨q0, q1, q2⟩ := h2
  obtain ⟨l0, l1, l2⟩ := hx
  obtain ⟨m0, m1, m2⟩ := hy
  obtain ⟨s0, s1, s2⟩ := hs
  rcases (by omega : k = 0 ∨ k = 1 ∨ k = 2) with rfl | rfl | rfl
  · refine ⟨_, _, p0, q0, l0, m0, fun h => ?_, fun h => ?_, fun h => ⟨fun _ => h, by omega, by omega⟩⟩
    · constructor <;> (simp [wLt]; omega)
    · simp [wLt]; omega
  · have e0 := s0 (by omega)
    refine ⟨_, _, p1, q1, l1, m1, fun h => ?_, fun h => ?_, fun h => ⟨fun _ => e0, fun _ => h, by omega⟩⟩
    · constructor <;> (simp [wLt]; omega)
    · simp [wLt]; omega
  · have e0 := s0 (by omega)
    have e1 := s1 (by omega)
    refine ⟨_, _, p2, q2, l2, m2, fun h => ?_, fun h => ?_, fun h => ⟨fun _ => e0, fun _ => e1, fun _ => h⟩⟩
    · constructor <;> (simp [wLt]; omega)
    · simp [wLt]; omega

/-- slices.Compare's answer -/
def cmp3 (x y : PWt) : Int := if wLt y x = true then 1 else if wLt x y = true then -1 else 0
theorem cmp3_gt (x y : PWt) : decide (0 < cmp3 x y) = wLt y x := by
  unfold cmp3
  split
  · rename_i h; rw [h]; rfl
  · rename_i h
    have e : wLt y x = false := by simpa using h
    rw [e]
    split <;> rfl

set_option maxRecDepth 100000 in
set_option maxHeartbeats 1600000 in
theorem compare3_any (w : World) (b1 b2 : Nat) (x y : PWt) (h1 : IntsAt w b1 x) (h2 : IntsAt w b2 y) (hx : x.low 1048576) (hy : y.low 1048576) :
    Calls Tryd.prog 27 #[.slice (some ⟨b1, 0, none⟩) 3 3, .slice (some ⟨b2, 0, none⟩) 3 3] w fun e w' => e = .returned (.int .i64 (cmp3 x y)) ∧ w' = w := by
  have H1 := Lib.hid h1
  have H2 := Lib.hid h2
  have HX := Lib.hid hx
  have HY := Lib.hid hy
  clear h1 h2 hx hy
  go_enter Tryd.func27, Tryd.ntmps27
  go_wp2_with fail
  go_loopw [11] (fun i wr => ∃ k : Nat, k ≤ 3 ∧ i = .int .i64 k ∧ wr = w ∧ Hid (Same3 x y k)) (fun i _ => 3 - (intOf i).toNat)
  case atStart => exact ⟨0, by omega, rfl, rfl, Lib.hid ⟨by omega, by omega, by omega⟩⟩
  case round =>
    obtain ⟨k, hk, rfl, rfl, HS⟩ := hrel
    by_cases hlt : k < 3
    · obtain ⟨u, v, c1, c2, hu, hv, hA, hB, hC⟩ := cmp_step H1.out H2.out HX.out HY.out hlt HS.out
      have HA := Lib.hid hA
      have HB := Lib.hid hB
      have HC := Lib.hid hC
      clear hA hB hC
      have HK := Lib.hid (Tryd.cmp_Compare_int (u : Int) (v : Int) wr)
      have ed : decide ((k : Int) < 3) = true := by simp; omega
      have ee : decide (3 ≤ (k : Int)) = false := by simp; omega
      rw [Nat.zero_add] at c1 c2
      by_cases g1 : u < v
      · have e1 : Lib.compareInt (u : Int) (v : Int) = -1 := by unfold Lib.compareInt; rw [if_pos (by omega)]
        rw [e1] at HK
        clear e1
        go_wp2_with (go_at_call 26; refine HK.out.mono ?_; rintro e w2 ⟨rfl, rfl⟩)
        go_ret
        exact ⟨by unfold cmp3; rw [(HA.out g1).1, (HA.out g1).2]; rfl, rfl⟩
      · by_cases g2 : v < u
        · have e1 : Lib.compareInt (u : Int) (v : Int) = 1 := by unfold Lib.compareInt; rw [if_neg (by omega), if_pos (by omega)]
          rw [e1] at HK
          clear e1
          go_wp2_with (go_at_call 26; refine HK.out.mono ?_; rintro e w2 ⟨rfl, rfl⟩)
          go_ret
          exact ⟨by unfold cmp3; rw [HB.out g2]; rfl, rfl⟩
        · have e1 : Lib.compareInt (u : Int) (v : Int) = 0 := by unfold Lib.compareInt; rw [if_neg (by omega), if_neg (by omega)]
          rw [e1] at HK
          clear e1
          go_wp2_with (go_at_call 26; refine HK.out.mono ?_; rintro e w2 ⟨rfl, rfl⟩)
          go_roundw
          case measure => simp [intOf]; omega
          case rel => exact ⟨k + 1, by omega, by go_num, trivial, Lib.hid (HC.out (by omega))⟩
    · obtain rfl : k = 3 := by omega
      go_wp2_with fail
      go_ret
      refine ⟨?_, rfl⟩
      obtain ⟨s0, s1, s2⟩ := HS.out
      obtain ⟨xa, xb, xc⟩ := x
      obtain ⟨ya, yb, yc⟩ := y
      have h1 := s0 (by omega)
      have h2 := s1 (by omega)
      have h3 := s2 (by omega)
      simp only at h1 h2 h3
      subst h1; subst h2; subst h3
      simp [cmp3, wLt]

theorem info_weight : (Tryd.prog.info? 57).map (fun i => (i.zero, i.size, i.bytes)) = some (some (.agg #[.int .i64 0, .int .i64 0, .int .i64 0]), 3, 24) := by kernel_rfl
def ruleVal (r : PRule) (u : Value) : Value := .agg (ruleCells r u).toArray
/-- what match.Best needs of a rule's selectors -/
def FewTests (sels : List PSel) : Prop := sels.length ≤ 1048576 ∧ ∀ s ∈ sels, nTests s ≤ 1048576
theorem weigh_low (s : PSel) : (mWeigh s).low (nTests s) := by
  suffices h : ∀ (ps : List PPart) (x : PWt) (n : Nat), x.low n → (ps.foldl wPart x).low (n + nTests ps) by
    have := h s ⟨0, 0, 0⟩ 0 ⟨Nat.le_refl _, Nat.le_refl _, Nat.le_refl _⟩
    rwa [Nat.zero_add] at this
  intro ps
  induction ps with
  | nil => intro x n h; exact h
  | cons p ps ih =>
    intro x n h
    have h1 : (wPart x p).low (n + p.tests.length) := by
      unfold wPart
      generalize p.tests = ts
      induction ts generalizing x n with
      | nil => exact h
      | cons t ts iht => have := iht (wTest x t) (n + 1) (wTest_low h t); simp only [List.foldl_cons, List.length_cons]; rwa [show n + (ts.length + 1) = n + 1 + ts.length by omega]
    have := ih _ _ h1
    have e : nTests (p :: ps) = p.tests.length + nTests ps := by simp [nTests]
    rw [e, ← Nat.add_assoc]
    exact this
/-- the best one so far, in a block of the call's own; the result's block lies ahead of it -/
structure BLp (w wr : World) (c : Nat) (acc : PWt × Bool) : Prop where
  at_ : WtAt wr (c + 1) acc.1
  res : WtAt wr c ⟨0, 0, 0⟩
  new : w.heap.size ≤ c
  kept : Kept (fun _ => False) w wr
  low : acc.1.low 1048576
theorem BLp.kept_by {w wr wx : World} {c : Nat} {acc : PWt × Bool} (h : BLp w wr c acc) (hk : Kept (fun _ => False) wr wx) : BLp w wx c acc := ⟨hk.heap id h.at_, hk.heap id h.res, h.new, h.kept.trans hk, h.low⟩
theorem BLp.put {w wr : World} {c : Nat} {acc : PWt × Bool} (h : BLp w wr c acc) (x y z : Nat) (hl : PWt.low ⟨x, y, z⟩ 1048576) (b : Bool) :
    BLp w (((wr.setCell ⟨c + 1, 0, none⟩ (.int .i64 (x : Int))).setCell ⟨c + 1, 1, none⟩ (.int .i64 (y : Int))).setCell ⟨c + 1, 2, none⟩ (.int .i64 (z : Int))) c (⟨x, y, z⟩, b) := by
  have hn := h.new
  refine ⟨?_, otherIn (otherIn (otherIn h.res _ _ (by show c ≠ c + 1; omega)) _ _ (by show c ≠ c + 1; omega)) _ _ (by show c ≠ c + 1; omega), hn,
    ((h.kept.setCell (p := ⟨c + 1, 0, none⟩) (.inr (by show w.heap.size ≤ c + 1; omega)) _).setCell (p := ⟨c + 1, 1, none⟩) (.inr (by show w.heap.size ≤ c + 1; omega)) _).setCell (p := ⟨c + 1, 2, none⟩) (.inr (by show w.heap.size ≤ c + 1; omega)) _, hl⟩
  have := setIn (setIn (setIn h.at_ 0 (.int .i64 (x : Int))) 1 (.int .i64 (y : Int))) 2 (.int .i64 (z : Int))
  simpa [WtAt] using this
theorem BLp.drewN {w wr : World} {c : Nat} {acc : PWt × Bool} (h : BLp w wr c acc) (n : Nat) : BLp w (wr.drewN n) c acc := h.kept_by ((Kept.refl _ wr).drewN n)
def BestEnds (w : World) (r : PWt × Bool) (e : Ending) (w' : World) : Prop := e = .returned (.tuple #[wtVal r.1, .bool r.2]) ∧ Kept (fun _ => False) w w'

set_option maxRecDepth 100000 in
set_option maxHeartbeats 3200000 in
theorem best_any (ns : List PNode) (hns : MtCtx ns) (r : PRule) (u : Value) (m : Int) (w : World) (v : Value) (k : Int) (hv : NodesAt w v ns) (hr : RuleAt w u r) (hf : FewTests r.sels) (hk : -9223372036854775808 ≤ k ∧ k ≤ 9223372036854775807) (hm : w.cell? ⟨0, 0, none⟩ = some (.int .i64 m)) :
    Calls Tryd.prog 19 #[v, .int .i64 k, ruleVal r u] w (BestEnds w (mBest ns k r.sels)) := by
  obtain ⟨sv, dv, rfl, hs, hd⟩ := hr
  obtain ⟨sa, scap, rfl, hsc1, hsc2⟩ := NestAt.form hs
  obtain ⟨da, dcap, rfl, hdc1, hdc2⟩ := DeclsAt.form hd
  unfold maxLen at hsc2 hdc2
  have hfew := hf.1
  have HV := Lib.hid hv
  have HSL := Lib.hid hs
  have HF := Lib.hid hf.2
  have HM := Lib.hid hm
  have HK := Lib.hid hk
  clear hv hs hd hf hm
  show Calls Tryd.prog 19 #[v, .int .i64 k, .agg #[.string (str r.media), .slice sa r.sels.length scap, .slice da r.decls.length dcap, .int .i64 r.lo, .int .i64 r.hi]] w _
  have hb0 : BLp w (((w.alloc (.cells #[.string (str r.media), .slice sa r.sels.length scap, .slice da r.decls.length dcap, .int .i64 r.lo, .int .i64 r.hi] 31 (0, 0))).alloc (.cells #[.int .i64 0, .int .i64 0, .int .i64 0] 57 (0, 0))).alloc (.cells #[.int .i64 0, .int .i64 0, .int .i64 0] 57 (0, 0))) (w.heap.size + 1) (⟨0, 0, 0⟩, false) := by
    refine ⟨?_, ?_, by omega, (((Kept.refl _ w).alloc _).alloc _).alloc _, Nat.zero_le _, Nat.zero_le _, Nat.zero_le _⟩
    · have := newIn ((w.alloc (.cells #[.string (str r.media), .slice sa r.sels.length scap, .slice da r.decls.length dcap, .int .i64 r.lo, .int .i64 r.hi] 31 (0, 0))).alloc (.cells #[.int .i64 0, .int .i64 0, .int .i64 0] 57 (0, 0))) (.cells #[.int .i64 0, .int .i64 0, .int .i64 0] 57 (0, 0))
      simpa [WtAt] using this
    · have := newIn (w.alloc (.cells #[.string (str r.media), .slice sa r.sels.length scap, .slice da r.decls.length dcap, .int .i64 r.lo, .int .i64 r.hi] 31 (0, 0))) (.cells #[.int .i64 0, .int .i64 0, .int .i64 0] 57 (0, 0))
      exact oldIn (by simpa [WtAt] using this) _
  have HB0 := Lib.hid hb0
  clear hb0
  go_enter Tryd.func19, Tryd.ntmps19
  go_wp2_with fail
  obtain ⟨i0, hi0, hz0, hz1, hz2⟩ := info_parts info_sel
  obtain ⟨j0, hj0, hy0, hy1, hy2⟩ := info_parts info_weight
  go_loopw [9, 16] (fun f i wr => ∃ (j : Nat) (acc : PWt × Bool), j ≤ List.length r.sels ∧ i = .int .i64 j ∧ f = .bool acc.2 ∧ Hid (BLp w wr (w.heap.size + 1) acc) ∧ Hid ((r.sels.take j).foldl (bestStep ns k) (⟨0, 0, 0⟩, false) = acc)) (fun _ i _ => List.length r.sels - (intOf i).toNat)
  case atStart => exact ⟨0, (⟨0, 0, 0⟩, false), by omega, rfl, rfl, HB0, Lib.hid rfl⟩
  case round =>
    obtain ⟨j, acc, hj, rfl, rfl, HL, HX0⟩ := hrel
    obtain ⟨wr0, hwr0⟩ : ∃ x, x = wr := ⟨_, rfl⟩
    subst hwr0
    by_cases hlt : j < List.length r.sels
    · have hx := List.getElem?_eq_getElem hlt
      generalize hgx : r.sels[j] = s at hx
      clear hgx
      obtain ⟨pb, po, pv, rfl, hpc, hpt⟩ := NestAt.at HSL.out hx
      have p0 : wr0.cell? ⟨pb, po + j, none⟩ = some pv := HL.out.kept.cell id (by have := hpc 0 _ rfl; simpa using this)
      obtain ⟨pa, pc, rfl, hpc1, hpc2⟩ := NestAt.form hpt
      unfold maxLen at hpc2
      have HPT := Lib.hid (parts_firm.kept hpt HL.out.kept)
      have hnx : Hid ((r.sels.take (j + 1)).foldl (bestStep ns k) (⟨0, 0, 0⟩, false) = bestStep ns k acc s) := Lib.hid (by
        rw [List.take_add_one, hx, Option.toList_some, List.foldl_append, HX0.out]; rfl)
      have HNT := Lib.hid (HF.out s (List.mem_of_getElem? hx))
      obtain ⟨hit, HIT⟩ : ∃ x, Hid (mMatches ns k s = x) := ⟨_, rfl⟩
      have HMT := matches_any ns hns s m wr0 v _ k (nodes_firm.kept HV.out HL.out.kept) HPT.out HK.out (HL.out.kept.cell id HM.out)
      rw [HIT.out] at HMT
      have HMT := Lib.hid HMT
      clear hx hpc hpt
      obtain ⟨⟨xa, xb, xc⟩, done⟩ := acc
      cases hit with
      | false =>
        have hn2 : Hid (bestStep ns k (⟨xa, xb, xc⟩, done) s = (⟨xa, xb, xc⟩, done)) := Lib.hid (by unfold bestStep; rw [HIT.out]; rfl)
        rw [hn2.out] at hnx
        go_wp2_with (go_at_call 31; refine HMT.out.mono ?_; rintro e w3 ⟨rfl, hk3⟩)
        go_roundw
        case measure => simp [intOf]; omega
        case rel => exact ⟨j + 1, _, by omega, by go_num, by trivial, Lib.hid (HL.out.kept_by hk3), hnx⟩
      | true =>
        obtain ⟨⟨ya, yb, yc⟩, HWY⟩ : ∃ x, Hid (mWeigh s = x) := ⟨_, rfl⟩
        have HYL : Hid (PWt.low ⟨ya, yb, yc⟩ 1048576) := Lib.hid (low_mono (by rw [← HWY.out]; exact weigh_low s) HNT.out)
        have hn2 : Hid (bestStep ns k (⟨xa, xb, xc⟩, done) s = if (!done || wLt ⟨xa, xb, xc⟩ ⟨ya, yb, yc⟩) = true then (⟨ya, yb, yc⟩, true) else (⟨xa, xb, xc⟩, done)) := Lib.hid (by unfold bestStep; rw [HIT.out, HWY.out]; simp)
        rw [hn2.out] at hnx
        clear hn2
        go_upto_region 7 with (go_at_call 31; refine HMT.out.mono ?_; rintro e w3 ⟨rfl, hk3⟩)
        have HW := weigh_any s w3 _ (parts_firm.kept HPT.out hk3) HNT.out
        rw [HWY.out] at HW
        unfold wtVal at HW
        simp only at HW
        have HW := Lib.hid HW
        have HK3 := Lib.hid hk3
        clear hk3
        go_upto_region 8 with (go_at_call 32; refine HW.out.mono ?_; rintro e w4 ⟨rfl, hk4⟩)
        have HL4 := Lib.hid (HL.out.kept_by (HK3.out.trans hk4))
        obtain ⟨wa, HWA⟩ : ∃ x, Hid (w4.alloc (.cells #[.int .i64 (ya : Int), .int .i64 (yb : Int), .int .i64 (yc : Int)] 57 (0, 0)) = x) := ⟨_, rfl⟩
        have hy : WtAt wa w4.heap.size ⟨ya, yb, yc⟩ := by rw [← HWA.out]; exact newIn w4 _
        have hka : Kept (fun _ => False) w4 wa := by rw [← HWA.out]; exact (Kept.refl _ w4).alloc _
        have HLA := Lib.hid (HL4.out.kept_by hka)
        have HY := Lib.hid hy
        have hne : w.heap.size + 2 < w4.heap.size := by
          have h1 := HL4.out.at_
          have := (Array.getElem?_eq_some_iff.1 h1).1
          omega
        clear hy hka
        rw [HWA.out]
        clear hk4 p0
        cases done with
        | false =>
          have hn2 : (if (!false || wLt ⟨xa, xb, xc⟩ ⟨ya, yb, yc⟩) = true then ((⟨ya, yb, yc⟩ : PWt), true) else ((⟨xa, xb, xc⟩ : PWt), false)) = (⟨ya, yb, yc⟩, true) := rfl
          rw [hn2] at hnx
          clear hn2
          obtain ⟨x1, x2, x3⟩ := HLA.out.at_.ints
          obtain ⟨y1, y2, y3⟩ := HY.out.ints
          have fz := freeIn HLA.out.at_
          have f0 := fz 0
          have f1 := fz 1
          have f2 := fz 2
          simp only at x1 x2 x3 y1 y2 y3
          clear fz
          go_wp2_with fail
          go_quiet (fail)
          go_wp2_with fail
          go_roundw
          case measure => simp [intOf]; omega
          case rel => exact ⟨j + 1, _, by omega, by go_num, by trivial, Lib.hid ((HLA.out.drewN nq).put ya yb yc HYL.out true), hnx⟩
        | true =>
          have HC : Hid (∀ n, Calls Tryd.prog 27 #[.slice (some ⟨w4.heap.size, 0, none⟩) 3 3, .slice (some ⟨w.heap.size + 2, 0, none⟩) 3 3] (wa.drewN n) fun e w' => e = .returned (.int .i64 (cmp3 ⟨ya, yb, yc⟩ ⟨xa, xb, xc⟩)) ∧ w' = wa.drewN n) := Lib.hid (fun n => compare3_any (wa.drewN n) w4.heap.size (w.heap.size + 2) ⟨ya, yb, yc⟩ ⟨xa, xb, xc⟩ HY.out.ints HLA.out.at_.ints HYL.out HLA.out.low)
          obtain ⟨lt, HLT⟩ : ∃ b, Hid (wLt ⟨xa, xb, xc⟩ ⟨ya, yb, yc⟩ = b) := ⟨_, rfl⟩
          obtain ⟨x1, x2, x3⟩ := HLA.out.at_.ints
          obtain ⟨y1, y2, y3⟩ := HY.out.ints
          have fz := freeIn HLA.out.at_
          have f0 := fz 0
          have f1 := fz 1
          have f2 := fz 2
          simp only at x1 x2 x3 y1 y2 y3
          clear fz
          cases lt with
          | true =>
            have hn2 : (if (!true || true) = true then ((⟨ya, yb, yc⟩ : PWt), true) else ((⟨xa, xb, xc⟩ : PWt), true)) = (⟨ya, yb, yc⟩, true) := rfl
            rw [HLT.out, hn2] at hnx
            clear hn2
            have hc : cmp3 ⟨ya, yb, yc⟩ ⟨xa, xb, xc⟩ = 1 := by unfold cmp3; rw [HLT.out]; rfl
            rw [hc] at HC
            clear hc
            go_wp2_with fail
            go_quiet ((go_at_call 27; exact Calls.quiet_of_same (HC.out _)))
            go_wp2_with fail
            go_roundw
            case measure => simp [intOf]; omega
            case rel => exact ⟨j + 1, _, by omega, by go_num, by trivial, Lib.hid ((HLA.out.drewN nq).put ya yb yc HYL.out true), hnx⟩
          | false =>
            have hn2 : (if (!true || false) = true then ((⟨ya, yb, yc⟩ : PWt), true) else ((⟨xa, xb, xc⟩ : PWt), true)) = (⟨xa, xb, xc⟩, true) := rfl
            rw [HLT.out, hn2] at hnx
            clear hn2
            cases hgt : wLt ⟨ya, yb, yc⟩ ⟨xa, xb, xc⟩ with
            | true =>
              have hc : cmp3 ⟨ya, yb, yc⟩ ⟨xa, xb, xc⟩ = -1 := by unfold cmp3; rw [HLT.out, hgt]; rfl
              rw [hc] at HC
              clear hc hgt
              go_wp2_with fail
              go_quiet ((go_at_call 27; exact Calls.quiet_of_same (HC.out _)))
              go_wp2_with fail
              go_roundw
              case measure => simp [intOf]; omega
              case rel => exact ⟨j + 1, _, by omega, by go_num, by trivial, Lib.hid (HLA.out.drewN nq), hnx⟩
            | false =>
              have hc : cmp3 ⟨ya, yb, yc⟩ ⟨xa, xb, xc⟩ = 0 := by unfold cmp3; rw [HLT.out, hgt]; rfl
              rw [hc] at HC
              clear hc hgt
              go_wp2_with fail
              go_quiet ((go_at_call 27; exact Calls.quiet_of_same (HC.out _)))
              go_wp2_with fail
              go_roundw
              case measure => simp [intOf]; omega
              case rel => exact ⟨j + 1, _, by omega, by go_num, by trivial, Lib.hid (HLA.out.drewN nq), hnx⟩
    · obtain ⟨⟨xa, xb, xc⟩, done⟩ := acc
      obtain rfl : j = List.length r.sels := by omega
      have HE : Hid (mBest ns k r.sels = (⟨xa, xb, xc⟩, done)) := Lib.hid (by unfold mBest; rw [← HX0.out, List.take_length])
      obtain ⟨x1, x2, x3⟩ := HL.out.at_.ints
      have hres := HL.out.res
      have fz := freeIn hres
      have f0 := fz 0
      have f1 := fz 1
      have f2 := fz 2
      obtain ⟨q0, q1, q2⟩ := hres.ints
      simp only at x1 x2 x3 q0 q1 q2
      clear fz
      go_wp2_with fail
      have hz : (((wr0.setCell ⟨w.heap.size + 1, 0, none⟩ (.int .i64 (xa : Int))).setCell ⟨w.heap.size + 1, 1, none⟩ (.int .i64 (xb : Int))).setCell ⟨w.heap.size + 1, 2, none⟩ (.int .i64 (xc : Int))).heap[w.heap.size + 1]? = some (.cells #[.int .i64 (xa : Int), .int .i64 (xb : Int), .int .i64 (xc : Int)] 57 (0, 0)) := by
        have := setIn (setIn (setIn hres 0 (.int .i64 (xa : Int))) 1 (.int .i64 (xb : Int))) 2 (.int .i64 (xc : Int))
        simpa using this
      have kz : Kept (fun _ => False) w (((wr0.setCell ⟨w.heap.size + 1, 0, none⟩ (.int .i64 (xa : Int))).setCell ⟨w.heap.size + 1, 1, none⟩ (.int .i64 (xb : Int))).setCell ⟨w.heap.size + 1, 2, none⟩ (.int .i64 (xc : Int))) := ((HL.out.kept.setCell (p := ⟨w.heap.size + 1, 0, none⟩) (.inr (by show w.heap.size ≤ w.heap.size + 1; omega)) _).setCell (p := ⟨w.heap.size + 1, 1, none⟩) (.inr (by show w.heap.size ≤ w.heap.size + 1; omega)) _).setCell (p := ⟨w.heap.size + 1, 2, none⟩) (.inr (by show w.heap.size ≤ w.heap.size + 1; omega)) _
      generalize (((wr0.setCell ⟨w.heap.size + 1, 0, none⟩ (.int .i64 (xa : Int))).setCell ⟨w.heap.size + 1, 1, none⟩ (.int .i64 (xb : Int))).setCell ⟨w.heap.size + 1, 2, none⟩ (.int .i64 (xc : Int))) = wz at *
      have z0 : wz.cell? ⟨w.heap.size + 1, 0, none⟩ = some (.int .i64 (xa : Int)) := cellIn hz 0 rfl
      have z1 : wz.cell? ⟨w.heap.size + 1, 1, none⟩ = some (.int .i64 (xb : Int)) := cellIn hz 1 rfl
      have z2 : wz.cell? ⟨w.heap.size + 1, 2, none⟩ = some (.int .i64 (xc : Int)) := cellIn hz 2 rfl
      refine bodyPost_ret (v := .tuple #[wtVal ⟨xa, xb, xc⟩, .bool done]) (by simp [results, Tryd.results19, go_sem, z0, z1, z2, wtVal]) rfl ?_
      rw [HE.out]
      exact ⟨rfl, kz⟩
end Go.Proofs.YtplbdlgmjehckacDoor
