/-
  inklaw2.SheetPlaces.
-/
import Derived.Test.YtplbdlgmjehckabPgFrame
import Derived.Test.YtplbdlgmjehckabPgPlain
import Derived.Test.YtplbdlgmjehckabShPut
import Derived.Test.YtplbdlgmjehckabShLaws
import Derived.Deep.RegionHeld3
namespace Go.Proofs.Ytplbdlgmjehckab
open Go.RowKit
set_option linter.unusedVariables false
set_option linter.unusedSimpArgs false

/-- a block laid whole -/
theorem rows_new {w : World} {b size : Nat} {rows : List (List Value)} {cs : Array Value} {t : TypeId} {fz : Nat × Nat} (h : w.heap[b]? = some (.cells cs t fz)) (hc : cs = rows.flatten.toArray) (hl : ∀ r ∈ rows, r.length = size) {n : Nat} (hn : n = rows.length) (hm : rows.length ≤ maxLen) :
    RowsAt w size (.slice (some ⟨b, 0, none⟩) n n) rows := by
  subst hn
  refine ⟨_, _, rfl, Nat.le_refl _, hm, fun _ => ⟨_, _, rfl, fun i r hr j c hj => ?_⟩⟩
  subst hc
  rw [show 0 + i * size + j = i * size + j by omega]
  exact cellIn h _ (by rw [List.getElem?_toArray]; exact flatten_get size rows hl i r hr j c hj)
/-- one rule's media and place are written anew -/
theorem places_put {w : World} {base g cap : Nat} {sl : List PSel} {dl : List PDecl} {m0 : B} {l0 h0 : Int} {vs : List Value} (h : RulesOwn w base (.slice (some ⟨g, 0, none⟩) 1 cap) [⟨m0, sl, dl, l0, h0⟩] vs) (md : B) (lo hi : Int) :
    RulesOwn (((w.setCell ⟨g, 0, none⟩ (.string (str md))).setCell ⟨g, 3, none⟩ (.int .i64 lo)).setCell ⟨g, 4, none⟩ (.int .i64 hi)) base (.slice (some ⟨g, 0, none⟩) 1 cap) [⟨md, sl, dl, lo, hi⟩] vs ∧
    RulesOwn (((w.setCell ⟨g, 3, none⟩ (.int .i64 lo)).setCell ⟨g, 4, none⟩ (.int .i64 hi)).setCell ⟨g, 0, none⟩ (.string (str md))) base (.slice (some ⟨g, 0, none⟩) 1 cap) [⟨md, sl, dl, lo, hi⟩] vs := by
  constructor
  · have h1 := NestOwn.put (k := 0) (j := 0) (x' := ⟨md, sl, dl, l0, h0⟩) (c := .string (str md)) h ruleCells_len rule_lasts rfl (by omega) (fun u => rfl) (fun _ _ _ h => h)
    have h2 := NestOwn.put (k := 0) (j := 3) (x' := ⟨md, sl, dl, lo, h0⟩) (c := .int .i64 lo) h1 ruleCells_len rule_lasts rfl (by omega) (fun u => rfl) (fun _ _ _ h => h)
    exact NestOwn.put (k := 0) (j := 4) (x' := ⟨md, sl, dl, lo, hi⟩) (c := .int .i64 hi) h2 ruleCells_len rule_lasts rfl (by omega) (fun u => rfl) (fun _ _ _ h => h)
  · have h1 := NestOwn.put (k := 0) (j := 3) (x' := ⟨m0, sl, dl, lo, h0⟩) (c := .int .i64 lo) h ruleCells_len rule_lasts rfl (by omega) (fun u => rfl) (fun _ _ _ h => h)
    have h2 := NestOwn.put (k := 0) (j := 4) (x' := ⟨m0, sl, dl, lo, hi⟩) (c := .int .i64 hi) h1 ruleCells_len rule_lasts rfl (by omega) (fun u => rfl) (fun _ _ _ h => h)
    exact NestOwn.put (k := 0) (j := 0) (x' := ⟨md, sl, dl, lo, hi⟩) (c := .string (str md)) h2 ruleCells_len rule_lasts rfl (by omega) (fun u => rfl) (fun _ _ _ h => h)

set_option maxRecDepth 100000 in
set_option maxHeartbeats 3200000 in
theorem sheetPlaces_any (w : World) (s : B) (m : Int) (hm : w.cell? ⟨0, 0, none⟩ = some (.int .i64 m)) (hs : s.length ≤ 9223372036854775807) :
    Calls Try.prog 6 #[.string (str s)] w fun e w' => e = .returned (.bool true) ∧ Below w.heap.size w w' := by
  have h0 : 0 < w.heap.size := World.block_lt_of_cell? w _ hm
  have HM := Lib.hid hm
  clear hm
  go_enter Try.func6, Try.ntmps6
  go_wp2_with (go_at_call 17; refine (alive2_any _ m HM.out).mono ?_; rintro e w1 ⟨rfl, hb1⟩)
  have hm1 : w1.cell? ⟨0, 0, none⟩ = some (.int .i64 m) := by rw [hb1.cell h0]; exact HM.out
  cases hp : sParse s with
  | bad f =>
    obtain ⟨hne, hpos⟩ := sparse_bad hp
    have hneI : ¬ ((f.err : Int) = 0) := by omega
    have HP := Lib.hid hp
    clear hp
    refine (sparse_no s f HP.out w1 m hm1 hs).mono ?_
    rintro e w2 ⟨rfl, hb2⟩
    have hb : Below w.heap.size w w2 := hb1.trans (hb2.mono hb1.size)
    have hg := newIn w2 (.cells #[.int .i64 (f.err : Int), .int .i64 (f.pos : Int)] 26 (0, 0))
    have hbx := hb.alloc hb.size (.cells #[.int .i64 (f.err : Int), .int .i64 (f.pos : Int)] 26 (0, 0))
    clear hb hb1 hb2
    go_upto_region 4 with fail
    generalize (w2.alloc (.cells #[.int .i64 (f.err : Int), .int .i64 (f.pos : Int)] 26 (0, 0))) = w3 at *
    have HB := Lib.hid hbx
    have f0 : w3.cell? ⟨w2.heap.size, 0, none⟩ = some (.int .i64 (f.err : Int)) := cellIn hg 0 rfl
    have f1 : w3.cell? ⟨w2.heap.size, 1, none⟩ = some (.int .i64 (f.pos : Int)) := cellIn hg 1 rfl
    clear hbx
    go_wp2_with fail
    refine bodyPost_ret (v := .bool true) (by first | (simp [results, Try.results6, go_sem]; done) | (simp [results, Try.results6, go_sem]; omega)) rfl ?_
    exact ⟨rfl, HB.out⟩
  | ok xs =>
    have HP := Lib.hid hp
    clear hp
    refine (sparse_ok s xs HP.out w1 m hm1 hs).mono ?_
    rintro e w2 ⟨a2, cap2, rfl, hb2, hn2, hc1, hc2⟩
    unfold maxLen at hc2
    have hb : Below w.heap.size w w2 := hb1.trans (hb2.mono hb1.size)
    have hg := newIn w2 (.cells #[.int .i64 0, .int .i64 0] 26 (0, 0))
    have hbx := hb.alloc hb.size (.cells #[.int .i64 0, .int .i64 0] 26 (0, 0))
    have hd3 := hn2.below ((Below.refl _ w2).alloc (Nat.le_refl _) (.cells #[.int .i64 0, .int .i64 0] 26 (0, 0)))
    clear hb hb1 hb2 hn2 hm1
    go_upto_region 4 with fail
    generalize (w2.alloc (.cells #[.int .i64 0, .int .i64 0] 26 (0, 0))) = w3 at *
    have f0 : w3.cell? ⟨w2.heap.size, 0, none⟩ = some (.int .i64 0) := cellIn hg 0 rfl
    have HB := Lib.hid hbx
    have HA := Lib.hid (rules_reads hd3)
    have hm3 : w3.cell? ⟨0, 0, none⟩ = some (.int .i64 m) := by rw [hbx.cell h0]; exact HM.out
    have HM3 := Lib.hid hm3
    obtain ⟨hs4, hx60, _⟩ := parse_inv HP.out
    have HPL := Lib.hid (parse_placed HP.out)
    clear hbx hd3 hm3 hg
    go_wp2_with fail
    go_loopw [5, 37] (fun e i wr => ∃ j en : Nat, j ≤ xs.length ∧ en ≤ s.length ∧ i = .int .i64 j ∧ e = .int .i64 en ∧ Hid (Placed s en (xs.drop j)) ∧ Hid (Kept (fun _ => False) w3 wr)) (fun _ i _ => xs.length - (intOf i).toNat)
    case atStart => exact ⟨0, 0, by omega, by omega, rfl, rfl, HPL, Lib.hid (Kept.refl _ _)⟩
    case round =>
      obtain ⟨j, en, hj, hen, rfl, rfl, HPJ, HK⟩ := hrel
      by_cases hlt : j < xs.length
      · have hx := List.getElem?_eq_getElem hlt
        generalize hgx : xs[j] = x at hx
        clear hgx
        have hdr : xs.drop j = x :: xs.drop (j + 1) := by
          rw [List.drop_eq_getElem_cons hlt]
          rw [List.getElem?_eq_getElem hlt] at hx
          cases hx; rfl
        obtain ⟨lo, hi, hlo, hhi, h1, h2, h3, hrt, hpn⟩ : ∃ lo hi : Nat, x.lo = (lo : Int) ∧ x.hi = (hi : Int) ∧ en ≤ lo ∧ lo < hi ∧ hi ≤ s.length ∧ RuleT (sub s lo hi) x.sels x.decls ∧ Placed s hi (xs.drop (j + 1)) := by
          have := HPJ.out
          rw [hdr] at this
          exact this
        obtain ⟨md, sl, dl, xl, xh⟩ := x
        simp only at hlo hhi hrt
        subst hlo; subst hhi
        obtain ⟨b, o, u, rfl, hcs, hru⟩ := NestAt.at (rules_firm.kept HA.out HK.out) hx
        obtain ⟨sv, dv, rfl, hsv, hdv⟩ := hru
        obtain ⟨sa, scap, rfl, hsc1, hsc2⟩ := NestAt.form hsv
        obtain ⟨da, dcap, rfl, hdc1, hdc2⟩ := DeclsAt.form hdv
        have c0 := hcs 0 _ rfl
        have c1 := hcs 1 _ rfl
        have c2 := hcs 2 _ rfl
        have c3 := hcs 3 _ rfl
        have c4 := hcs 4 _ rfl
        simp only [vFst, vSnd, Array.getD, Nat.add_zero] at c0 c1 c2 c3 c4
        have hsl : (sub s lo hi).length = hi - lo := by simp [sub]; omega
        have hal := rule_alone hrt (by omega)
        have HAL := Lib.hid hal
        have HSV := Lib.hid hsv
        have HDV := Lib.hid hdv
        have HPN := Lib.hid hpn
        clear hcs hsv hdv hrt hpn hx hdr hal
        go_upto_region 10 with fail
        obtain ⟨wa, HWA⟩ : ∃ y, Hid (wr.alloc (.cells #[.string (str md), .slice sa sl.length scap, .slice da dl.length dcap, .int .i64 lo, .int .i64 hi] 42 (0, 0)) = y) := ⟨_, rfl⟩
        have hba : wa.heap[wr.heap.size]? = some (.cells #[.string (str md), .slice sa sl.length scap, .slice da dl.length dcap, .int .i64 lo, .int .i64 hi] 42 (0, 0)) := by rw [← HWA.out]; exact newIn wr _
        have hka : Kept (fun _ => False) wr wa := by rw [← HWA.out]; exact (Kept.refl _ wr).alloc _
        have KA := Lib.hid (HK.out.trans hka)
        have KRA := Lib.hid hka
        have HBA := Lib.hid hba
        obtain ⟨bx, HBX⟩ : ∃ y, Hid (wr.heap.size = y) := ⟨_, rfl⟩
        rw [HBX.out] at HBA
        have r0 : wa.cell? ⟨bx, 0, none⟩ = some (.string (str md)) := cellIn HBA.out 0 rfl
        have r3 : wa.cell? ⟨bx, 3, none⟩ = some (.int .i64 lo) := cellIn HBA.out 3 rfl
        have r4 : wa.cell? ⟨bx, 4, none⟩ = some (.int .i64 hi) := cellIn HBA.out 4 rfl
        clear hba hka c0 c1 c2 c3 c4
        rw [HWA.out, HBX.out]
        have HPC := Lib.hid (sparse_own (sub s lo hi) _ HAL.out wa m (KA.out.cell id HM3.out) (by omega))
        unfold sub at HPC
        go_upto_region 14 with (go_at_call 9; refine HPC.out.mono ?_; rintro e w4 ⟨a4, cap4, vs4, rfl, hb4, hn4, hc4, hc4'⟩)
        change RulesOwn w4 wa.heap.size (.slice a4 1 cap4) [_] vs4 at hn4
        unfold maxLen at hc4'
        obtain ⟨w5, HW5⟩ : ∃ y, Hid (w4.alloc (.cells #[.int .i64 0, .int .i64 0] 26 (0, 0)) = y) := ⟨_, rfl⟩
        have k45 : Kept (fun _ => False) w4 w5 := by rw [← HW5.out]; exact (Kept.refl _ w4).alloc _
        have f5 : w5.cell? ⟨w4.heap.size, 0, none⟩ = some (.int .i64 0) := by rw [← HW5.out]; exact cellIn (newIn w4 _) 0 rfl
        have ka5 : Kept (fun _ => False) wa w5 := (Kept.of_below hb4).trans k45
        have hwa0 : 0 < wa.heap.size := by have := ltIn HBA.out; omega
        have hn5 : RulesOwn w5 wa.heap.size (.slice a4 1 cap4) [⟨[], sl, dl, 0, ((sub s lo hi).length : Int)⟩] vs4 := by rw [← HW5.out]; exact hn4.alloc rule_lasts _
        have hz : ∃ g, a4 = some ⟨g, 0, none⟩ ∧ wa.heap.size ≤ g ∧ ∃ cur, w5.heap[g]? = some (.cells cur 42 (0, 0)) := by
          rcases hn5.own.2 with ⟨h, h0⟩ | ⟨g, cap, cur, h1, h2, h3, _⟩
          · cases h0
          · cases h1; exact ⟨g, rfl, h2, cur, h3⟩
        obtain ⟨g, rfl, hgw, cur, hcur⟩ := hz
        have g0 := freeIn hcur 0
        have g3 := freeIn hcur 3
        have g4 := freeIn hcur 4
        obtain ⟨vs, e1, e2, e3, e4⟩ := hn5.done ruleCells_len rule_lasts
        obtain ⟨u1, rfl⟩ : ∃ u1, vs = [u1] := List.length_eq_one_iff.1 (by simpa using e1)
        obtain ⟨b', o', hbo, hce⟩ := RowsAt.at e2 (k := 0) (r := ruleCells _ u1) rfl
        cases hbo
        have q0 : w5.cell? ⟨g, 0, none⟩ = some (.string (str [])) := hce 0 _ rfl
        have q3 : w5.cell? ⟨g, 3, none⟩ = some (.int .i64 0) := hce 3 _ rfl
        have q4 : w5.cell? ⟨g, 4, none⟩ = some (.int .i64 (sub s lo hi).length) := hce 4 _ rfl
        have s0 := ka5.cell id r0
        have s3 := ka5.cell id r3
        have s4 := ka5.cell id r4
        have hne : g ≠ bx := by have := ltIn HBA.out; omega
        have KA5 := Lib.hid ka5
        have HN5 := Lib.hid hn5
        clear hn4 hn5 k45 ka5 hb4 e1 e2 e3 e4 hce r0 r3 r4
        rw [HW5.out]
        go_upto_region 16 with fail
        go_region_held3 (fun w' => w'.cell? ⟨bx, 0, none⟩ = some (.string (str md)) ∧ w'.cell? ⟨bx, 3, none⟩ = some (.int .i64 lo) ∧ w'.cell? ⟨bx, 4, none⟩ = some (.int .i64 hi)) (go_keep) (fail)
        all_goals
          first
          | (obtain ⟨wz, HWZ⟩ : ∃ y, Hid ((((w5.setCell ⟨g, 0, none⟩ (.string (str md))).setCell ⟨g, 3, none⟩ (.int .i64 lo)).setCell ⟨g, 4, none⟩ (.int .i64 hi)).drew = y) := ⟨_, rfl⟩
             rw [HWZ.out]
             have hoz : RulesOwn wz wa.heap.size (.slice (some ⟨g, 0, none⟩) 1 cap4) [⟨md, sl, dl, (lo : Int), (hi : Int)⟩] vs4 := by rw [← HWZ.out]; exact (places_put HN5.out md lo hi).1.kept rule_lasts hwa0 ((Kept.refl (· = 0) _).drew)
             have kz : Kept (· = g) w5 wz := by rw [← HWZ.out]; exact ((((Kept.refl (· = g) w5).setCell (p := ⟨g, 0, none⟩) (.inl rfl) _).setCell (p := ⟨g, 3, none⟩) (.inl rfl) _).setCell (p := ⟨g, 4, none⟩) (.inl rfl) _).drew)
          | (obtain ⟨wz, HWZ⟩ : ∃ y, Hid ((((w5.setCell ⟨g, 3, none⟩ (.int .i64 lo)).setCell ⟨g, 4, none⟩ (.int .i64 hi)).setCell ⟨g, 0, none⟩ (.string (str md))).drew = y) := ⟨_, rfl⟩
             rw [HWZ.out]
             have hoz : RulesOwn wz wa.heap.size (.slice (some ⟨g, 0, none⟩) 1 cap4) [⟨md, sl, dl, (lo : Int), (hi : Int)⟩] vs4 := by rw [← HWZ.out]; exact (places_put HN5.out md lo hi).2.kept rule_lasts hwa0 ((Kept.refl (· = 0) _).drew)
             have kz : Kept (· = g) w5 wz := by rw [← HWZ.out]; exact ((((Kept.refl (· = g) w5).setCell (p := ⟨g, 3, none⟩) (.inl rfl) _).setCell (p := ⟨g, 4, none⟩) (.inl rfl) _).setCell (p := ⟨g, 0, none⟩) (.inl rfl) _).drew)
        all_goals
          have hbz : wz.heap[bx]? = some (.cells #[.string (str md), .slice sa sl.length scap, .slice da dl.length dcap, .int .i64 lo, .int .i64 hi] 42 (0, 0)) := kz.heap (fun h => hne h.symm) (KA5.out.heap id HBA.out)
          have z0 : wz.cell? ⟨bx, 0, none⟩ = some (.string (str md)) := cellIn hbz 0 rfl
          have z1 : wz.cell? ⟨bx, 1, none⟩ = some (.slice sa sl.length scap) := cellIn hbz 1 rfl
          have z2 : wz.cell? ⟨bx, 2, none⟩ = some (.slice da dl.length dcap) := cellIn hbz 2 rfl
          have z3 : wz.cell? ⟨bx, 3, none⟩ = some (.int .i64 lo) := cellIn hbz 3 rfl
          have z4 : wz.cell? ⟨bx, 4, none⟩ = some (.int .i64 hi) := cellIn hbz 4 rfl
          have hgr : wr.heap.size ≤ g := Nat.le_trans KRA.out.size hgw
          have KZ : Hid (Kept (fun _ => False) wr wz) := Lib.hid ((KRA.out.trans KA5.out).trans' kz (fun i hi h => by rw [h] at hi; omega))
          obtain ⟨wy, HWY⟩ : ∃ y, Hid (wz.alloc (.cells #[.string (str md), .slice sa sl.length scap, .slice da dl.length dcap, .int .i64 lo, .int .i64 hi] 42 (0, 0)) = y) := ⟨_, rfl⟩
          have kzy : Kept (fun _ => False) wz wy := by rw [← HWY.out]; exact (Kept.refl _ wz).alloc _
          have ha : RulesAt wy (.slice (some ⟨g, 0, none⟩) 1 cap4) [⟨md, sl, dl, (lo : Int), (hi : Int)⟩] := rules_firm.kept (rules_reads (hoz.done ruleCells_len rule_lasts)) kzy
          have hb : RulesAt wy (.slice (some ⟨wz.heap.size, 0, none⟩) 1 1) [⟨md, sl, dl, (lo : Int), (hi : Int)⟩] := by
            refine ⟨[.tuple #[.slice sa sl.length scap, .slice da dl.length dcap]], rfl, ?_, fun i x u hx hu => ?_⟩
            · rw [← HWY.out]
              exact rows_new (newIn wz _) rfl (by simp [ruleCells]) rfl (by simp [maxLen])
            · cases i with
              | zero => cases hx; cases hu; exact ⟨_, _, rfl, sels_firm.kept HSV.out (KZ.out.trans kzy), decls_firm.kept HDV.out (KZ.out.trans kzy)⟩
              | succ i => simp at hx
          have HSR := Lib.hid (sameRules_any wy _ _ _ ha hb)
          have KY := Lib.hid ((HK.out.trans KZ.out).trans kzy)
          clear hoz kz hbz ha hb kzy
          go_wp2_with fail
          rw [HWY.out]
          refine HSR.out.mono ?_
          rintro e w8 ⟨rfl, hq8⟩
          have K8 := Lib.hid (KY.out.trans (hq8.kept _))
          clear hq8
          go_wp2_with fail
          go_roundw
          case measure => simp [intOf]; omega
          case rel => exact ⟨j + 1, hi, by omega, h3, by go_num, by trivial, HPN, K8⟩
      · obtain rfl : j = xs.length := by omega
        go_wp2_with fail
        go_ret
        exact ⟨rfl, HB.out.trans (HK.out.below.mono HB.out.size)⟩
end Go.Proofs.Ytplbdlgmjehckab
