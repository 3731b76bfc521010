/-
  cascade.order, cascade.counts, and what they call.
-/
import Derived.Test.YtplbdlgmjehckacDoorMtBest
import Derived.Test.YtplbdlgmjehckacDoorCaSpec
namespace Go.Proofs.YtplbdlgmjehckacDoor
open Go.RowKit
set_option linter.unusedVariables false
set_option linter.unusedSimpArgs false

def flagI (b : Bool) : Int := if b then 1 else 0
theorem flag_any (b : Bool) (w : World) : Calls Tryd.prog 24 #[.bool b] w fun e w' => e = .returned (.int .i64 (flagI b)) ∧ w' = w := by
  cases b with
  | true =>
    go_enter Tryd.func24, Tryd.ntmps24
    go_wp2_with fail
    go_ret
    exact ⟨rfl, rfl⟩
  | false =>
    go_enter Tryd.func24, Tryd.ntmps24
    go_wp2_with fail
    go_ret
    exact ⟨rfl, rfl⟩

/-- cmp.Or of three -/
def or3 (x y z : Int) : Int := if x = 0 then (if y = 0 then z else y) else x
def IntsO (w : World) (b o : Nat) (x y z : Int) : Prop := w.cell? ⟨b, o, none⟩ = some (.int .i64 x) ∧ w.cell? ⟨b, o + 1, none⟩ = some (.int .i64 y) ∧ w.cell? ⟨b, o + 2, none⟩ = some (.int .i64 z)
theorem ints_new (w : World) (x y z : Int) : IntsO (w.alloc (.cells #[.int .i64 x, .int .i64 y, .int .i64 z] 3 (0, 0))).drew w.heap.size 0 x y z :=
  ⟨cellIn (newIn w (.cells #[.int .i64 x, .int .i64 y, .int .i64 z] 3 (0, 0))) 0 rfl, cellIn (newIn w (.cells #[.int .i64 x, .int .i64 y, .int .i64 z] 3 (0, 0))) 1 rfl, cellIn (newIn w (.cells #[.int .i64 x, .int .i64 y, .int .i64 z] 3 (0, 0))) 2 rfl⟩
theorem ints_step {w : World} {b o : Nat} {x y z : Int} (h : IntsO w b o x y z) {k : Nat} (hk : k < 3) : ∃ u : Int, w.cell? ⟨b, o + k, none⟩ = some (.int .i64 u) ∧ (k = 0 → u = x) ∧ (k = 1 → u = y) ∧ (k = 2 → u = z) := by
  obtain ⟨h0, h1, h2⟩ := h
  rcases (by omega : k = 0 ∨ k = 1 ∨ k = 2) with rfl | rfl | rfl
  · exact ⟨x, h0, fun _ => rfl, by omega, by omega⟩
  · exact ⟨y, h1, by omega, fun _ => rfl, by omega⟩
  · exact ⟨z, h2, by omega, by omega, fun _ => rfl⟩

set_option maxRecDepth 100000 in
set_option maxHeartbeats 1600000 in
theorem or_any (w : World) (b : Nat) (x y z : Int) (h : IntsO w b 0 x y z) :
    Calls Tryd.prog 25 #[.slice (some ⟨b, 0, none⟩) 3 3] w fun e w' => e = .returned (.int .i64 (or3 x y z)) ∧ Kept (fun _ => False) w w' := by
  have H := Lib.hid h
  clear h
  go_enter Tryd.func25, Tryd.ntmps25
  go_wp2_with fail
  go_loopw [8] (fun i wr => ∃ k : Nat, k ≤ 3 ∧ i = .int .i64 (k : Int) ∧ wr = w ∧ Hid ((0 < k → x = 0) ∧ (1 < k → y = 0) ∧ (2 < k → z = 0))) (fun i _ => 3 - (intOf i).toNat)
  case atStart => exact ⟨0, by omega, rfl, rfl, Lib.hid ⟨by omega, by omega, by omega⟩⟩
  case round =>
    obtain ⟨k, hk, rfl, rfl, HS⟩ := hrel
    by_cases hlt : k < 3
    · obtain ⟨u, c, u0, u1, u2⟩ := ints_step H.out hlt
      have HU := Lib.hid (And.intro u0 (And.intro u1 u2))
      have ed : decide ((k : Int) < 3) = true := by simp; omega
      have ee : decide (3 ≤ (k : Int)) = false := by simp; omega
      rw [Nat.zero_add] at c
      clear u0 u1 u2
      by_cases g : u = 0
      · subst g
        go_wp2_with fail
        go_roundw
        case measure => simp [intOf]; omega
        case rel =>
          refine ⟨k + 1, by omega, by go_num, by trivial, Lib.hid ?_⟩
          obtain ⟨s0, s1, s2⟩ := HS.out
          obtain ⟨u0, u1, u2⟩ := HU.out
          refine ⟨fun _ => ?_, fun _ => ?_, fun _ => ?_⟩
          · by_cases h : k = 0
            · exact (u0 h).symm
            · exact s0 (by omega)
          · by_cases h : k = 1
            · exact (u1 h).symm
            · exact s1 (by omega)
          · by_cases h : k = 2
            · exact (u2 h).symm
            · exact s2 (by omega)
      · have e0 : (u != 0) = true := by simpa using g
        have hr : Hid (u = or3 x y z) := Lib.hid (by
          obtain ⟨s0, s1, s2⟩ := HS.out
          obtain ⟨u0, u1, u2⟩ := HU.out
          unfold or3
          rcases (by omega : k = 0 ∨ k = 1 ∨ k = 2) with h | h | h
          · have := u0 h
            rw [if_neg (by rw [← this]; exact g)]; exact this
          · have := u1 h
            rw [if_pos (s0 (by omega)), if_neg (by rw [← this]; exact g)]; exact this
          · have := u2 h
            rw [if_pos (s0 (by omega)), if_pos (s1 (by omega))]; exact this)
        clear g
        go_wp2_with fail
        go_ret
        exact ⟨reti hr.out, Kept.refl _ _⟩
    · obtain rfl : k = 3 := by omega
      go_wp2_with fail
      go_ret
      refine ⟨reti ?_, Kept.refl _ _⟩
      obtain ⟨s0, s1, s2⟩ := HS.out
      unfold or3
      rw [if_pos (s0 (by omega)), if_pos (s1 (by omega)), s2 (by omega)]

def IntsAtO (w : World) (b o : Nat) (x : PWt) : Prop := IntsO w b o (x.a : Int) (x.b : Int) (x.c : Int)
theorem cmpo_step {w : World} {b1 o1 b2 o2 : Nat} {x y : PWt} {n : Nat} (h1 : IntsAtO w b1 o1 x) (h2 : IntsAtO w b2 o2 y) (hx : x.low n) (hy : y.low n) {k : Nat} (hk : k < 3) (hs : Same3 x y k) :
    ∃ u v : Nat, w.cell? ⟨b1, o1 + k, none⟩ = some (.int .i64 (u : Int)) ∧ w.cell? ⟨b2, o2 + k, none⟩ = some (.int .i64 (v : Int)) ∧ u ≤ n ∧ v ≤ n ∧ (u < v → wLt y x = false ∧ wLt x y = true) ∧ (v < u → wLt y x = true) ∧ (u = v → Same3 x y (k + 1)) := by
  obtain ⟨p0, p1, p2⟩ := h1
  obtain ⟨q0, q1, q2⟩ := h2
  obtain ⟨l0, l1, l2⟩ := hx
  obtain ⟨m0, m1, m2⟩ := hy
  obtain ⟨s0, s1, s2⟩ := hs
  rcases (by omega : k = 0 ∨ k = 1 ∨ k = 2) with rfl | rfl | rfl
  · refine ⟨_, _, p0, q0, l0, m0, fun h => ?_, fun h => ?_, fun h => ⟨fun _ => h, by omega, by omega⟩⟩
    · constructor <;> (simp [wLt]; omega)
    · simp [wLt]; omega
  · have e0 := s0 (by omega)
    refine ⟨_, _, p1, q1, l1, m1, fun h => ?_, fun h => ?_, fun h => ⟨fun _ => e0, fun _ => h, by omega⟩⟩
    · constructor <;> (simp [wLt]; omega)
    · simp [wLt]; omega
  · have e0 := s0 (by omega)
    have e1 := s1 (by omega)
    refine ⟨_, _, p2, q2, l2, m2, fun h => ?_, fun h => ?_, fun h => ⟨fun _ => e0, fun _ => e1, fun _ => h⟩⟩
    · constructor <;> (simp [wLt]; omega)
    · simp [wLt]; omega

set_option maxRecDepth 100000 in
set_option maxHeartbeats 1600000 in
theorem compareo_any (w : World) (b1 o1 b2 o2 : Nat) (x y : PWt) (h1 : IntsAtO w b1 o1 x) (h2 : IntsAtO w b2 o2 y) (hx : x.low 1048576) (hy : y.low 1048576) :
    Calls Tryd.prog 27 #[.slice (some ⟨b1, o1, none⟩) 3 3, .slice (some ⟨b2, o2, none⟩) 3 3] w fun e w' => e = .returned (.int .i64 (cmp3 x y)) ∧ w' = w := by
  have H1 := Lib.hid h1
  have H2 := Lib.hid h2
  have HX := Lib.hid hx
  have HY := Lib.hid hy
  clear h1 h2 hx hy
  go_enter Tryd.func27, Tryd.ntmps27
  go_wp2_with fail
  go_loopw [11] (fun i wr => ∃ k : Nat, k ≤ 3 ∧ i = .int .i64 k ∧ wr = w ∧ Hid (Same3 x y k)) (fun i _ => 3 - (intOf i).toNat)
  case atStart => exact ⟨0, by omega, rfl, rfl, Lib.hid ⟨by omega, by omega, by omega⟩⟩
  case round =>
    obtain ⟨k, hk, rfl, rfl, HS⟩ := hrel
    by_cases hlt : k < 3
    · obtain ⟨u, v, c1, c2, hu, hv, hA, hB, hC⟩ := cmpo_step H1.out H2.out HX.out HY.out hlt HS.out
      have HA := Lib.hid hA
      have HB := Lib.hid hB
      have HC := Lib.hid hC
      clear hA hB hC
      have HK := Lib.hid (Tryd.cmp_Compare_int (u : Int) (v : Int) wr)
      have ed : decide ((k : Int) < 3) = true := by simp; omega
      have ee : decide (3 ≤ (k : Int)) = false := by simp; omega
      by_cases g1 : u < v
      · have e1 : Lib.compareInt (u : Int) (v : Int) = -1 := by unfold Lib.compareInt; rw [if_pos (by omega)]
        rw [e1] at HK
        clear e1
        go_wp2_with (go_at_call 26; refine HK.out.mono ?_; rintro e w2 ⟨rfl, rfl⟩)
        go_ret
        exact ⟨by unfold cmp3; rw [(HA.out g1).1, (HA.out g1).2]; rfl, rfl⟩
      · by_cases g2 : v < u
        · have e1 : Lib.compareInt (u : Int) (v : Int) = 1 := by unfold Lib.compareInt; rw [if_neg (by omega), if_pos (by omega)]
          rw [e1] at HK
          clear e1
          go_wp2_with (go_at_call 26; refine HK.out.mono ?_; rintro e w2 ⟨rfl, rfl⟩)
          go_ret
          exact ⟨by unfold cmp3; rw [HB.out g2]; rfl, rfl⟩
        · have e1 : Lib.compareInt (u : Int) (v : Int) = 0 := by unfold Lib.compareInt; rw [if_neg (by omega), if_neg (by omega)]
          rw [e1] at HK
          clear e1
          go_wp2_with (go_at_call 26; refine HK.out.mono ?_; rintro e w2 ⟨rfl, rfl⟩)
          go_roundw
          case measure => simp [intOf]; omega
          case rel => exact ⟨k + 1, by omega, by go_num, trivial, Lib.hid (HC.out (by omega))⟩
    · obtain rfl : k = 3 := by omega
      go_wp2_with fail
      go_ret
      refine ⟨?_, rfl⟩
      obtain ⟨s0, s1, s2⟩ := HS.out
      obtain ⟨xa, xb, xc⟩ := x
      obtain ⟨ya, yb, yc⟩ := y
      have h1 := s0 (by omega)
      have h2 := s1 (by omega)
      have h3 := s2 (by omega)
      simp only at h1 h2 h3
      subst h1; subst h2; subst h3
      simp [cmp3, wLt]

/-! ### a claim in memory -/
def claimCells (c : PClaim) : List Value := [.string (str c.d.name), .string (str c.d.val), .bool c.d.strong, .bool c.own, .int .i64 (c.w.a : Int), .int .i64 (c.w.b : Int), .int .i64 (c.w.c : Int)]
def ClaimAt (w : World) (b o : Nat) (c : PClaim) : Prop := ∀ j v, (claimCells c)[j]? = some v → w.cell? ⟨b, o + j, none⟩ = some v
theorem ClaimAt.kept {w w' : World} {b o : Nat} {c : PClaim} {S : Nat → Prop} (h : ClaimAt w b o c) (hk : Kept S w w') (hs : ¬ S b) : ClaimAt w' b o c := fun j v hj => hk.cell hs (h j v hj)
/-- what order answers -/
def ordI (x y : PClaim) : Int := or3 (Lib.compareInt (flagI x.d.strong) (flagI y.d.strong)) (Lib.compareInt (flagI x.own) (flagI y.own)) (cmp3 x.w y.w)
theorem ord_beats (x y : PClaim) : 0 ≤ ordI x y ↔ beats x y = true := by
  obtain ⟨⟨_, _, s1⟩, o1, w1⟩ := x
  obtain ⟨⟨_, _, s2⟩, o2, w2⟩ := y
  unfold ordI or3 beats cmp3 Lib.compareInt flagI
  simp only
  cases hA : wLt w2 w1 with
  | true =>
    have hB := wLt_asymm hA
    cases s1 <;> cases s2 <;> cases o1 <;> cases o2 <;> simp [hB]
  | false =>
    cases hB : wLt w1 w2 <;> cases s1 <;> cases s2 <;> cases o1 <;> cases o2 <;> simp

set_option maxRecDepth 100000 in
set_option maxHeartbeats 3200000 in
theorem order_any (w : World) (b1 o1 b2 o2 : Nat) (x y : PClaim) (h1 : ClaimAt w b1 o1 x) (h2 : ClaimAt w b2 o2 y) (hx : x.w.low 1048576) (hy : y.w.low 1048576) :
    Calls Tryd.prog 11 #[.pointer (some ⟨b1, o1, none⟩), .pointer (some ⟨b2, o2, none⟩)] w fun e w' => e = .returned (.int .i64 (ordI x y)) ∧ Kept (fun _ => False) w w' := by
  have x2 : w.cell? ⟨b1, o1 + 2, none⟩ = some (.bool x.d.strong) := h1 2 _ rfl
  have x3 : w.cell? ⟨b1, o1 + 3, none⟩ = some (.bool x.own) := h1 3 _ rfl
  have y2 : w.cell? ⟨b2, o2 + 2, none⟩ = some (.bool y.d.strong) := h2 2 _ rfl
  have y3 : w.cell? ⟨b2, o2 + 3, none⟩ = some (.bool y.own) := h2 3 _ rfl
  have HXI : Hid (IntsAtO w b1 (o1 + 4) x.w) := Lib.hid ⟨h1 4 _ rfl, h1 5 _ rfl, h1 6 _ rfl⟩
  have HYI : Hid (IntsAtO w b2 (o2 + 4) y.w) := Lib.hid ⟨h2 4 _ rfl, h2 5 _ rfl, h2 6 _ rfl⟩
  obtain ⟨r, HR⟩ : ∃ r, Hid (ordI x y = r) := ⟨_, rfl⟩
  rw [HR.out]
  have HX := Lib.hid hx
  have HY := Lib.hid hy
  clear h1 h2 hx hy
  go_enter Tryd.func11, Tryd.ntmps11
  go_upto_region 2 with fail
  go_region_held3 (fun w' => w'.cell? ⟨b1, o1 + 2, none⟩ = some (.bool x.d.strong) ∧ w'.cell? ⟨b1, o1 + 3, none⟩ = some (.bool x.own) ∧ w'.cell? ⟨b2, o2 + 2, none⟩ = some (.bool y.d.strong) ∧ w'.cell? ⟨b2, o2 + 3, none⟩ = some (.bool y.own)) (first | exact ⟨hk8.cell id (cell_alloc x2 _), hk8.cell id (cell_alloc x3 _), hk8.cell id (cell_alloc y2 _), hk8.cell id (cell_alloc y3 _)⟩ | exact ⟨x2, x3, y2, y3⟩ | exact ⟨cell_alloc x2 _, cell_alloc x3 _, cell_alloc y2 _, cell_alloc y3 _⟩ | go_keep)
    ((first
      | (go_at_call 24; refine (flag_any _ _).mono ?_; rintro e w5 ⟨rfl, rfl⟩)
      | (go_at_call 26; refine (Tryd.cmp_Compare_int _ _ _).mono ?_; rintro e w6 ⟨rfl, rfl⟩)
      | (go_at_call 27; refine (compareo_any _ _ _ _ _ x.w y.w (by exact HXI.out) (by exact HYI.out) HX.out HY.out).mono ?_; rintro e w7 ⟨rfl, rfl⟩)
      | (go_at_call 25; refine (or_any _ _ (Lib.compareInt (flagI x.d.strong) (flagI y.d.strong)) (Lib.compareInt (flagI x.own) (flagI y.own)) (cmp3 x.w y.w) (ints_new w _ _ _)).mono ?_; rintro e w8 ⟨rfl, hk8⟩)))
  all_goals
    go_wp2_with fail
    go_ret
    exact ⟨reti HR.out, (((Kept.refl _ w).alloc _).drew).trans hk8⟩

set_option maxRecDepth 100000 in
theorem counts_any (w : World) (b o : Nat) (r : PRule) (mv : Value) (media : List B) (h : w.cell? ⟨b, o, none⟩ = some (.string (str r.media))) (hm : StrsAt w mv media) :
    Calls Tryd.prog 20 #[.pointer (some ⟨b, o, none⟩), mv] w fun e w' => e = .returned (.bool (counts r media)) ∧ Kept (fun _ => False) w w' := by
  obtain ⟨q, HQ⟩ : ∃ q, Hid (counts r media = q) := ⟨_, rfl⟩
  rw [HQ.out]
  cases he : r.media.isEmpty with
  | true =>
    have hr : Hid (true = q) := Lib.hid (by rw [← HQ.out]; unfold counts; rw [he]; rfl)
    have e1 : (r.media == []) = true := by simpa using he
    clear he
    go_enter Tryd.func20, Tryd.ntmps20
    go_wp2_with fail
    go_ret
    exact ⟨retb hr.out, Kept.refl _ _⟩
  | false =>
    have hr : media.contains r.media = q := by rw [← HQ.out]; unfold counts; rw [he]; simp
    have e1 : (r.media == []) = false := by simpa using he
    have HC := contains_reads w mv media r.media hm
    rw [hr] at HC
    replace HC := Lib.hid HC
    clear he hr
    go_enter Tryd.func20, Tryd.ntmps20
    go_wp2_with (go_at_call 33; refine HC.out.mono ?_; rintro e w2 ⟨rfl, hk2⟩)
    go_ret
    exact ⟨rfl, hk2⟩
end Go.Proofs.YtplbdlgmjehckacDoor
