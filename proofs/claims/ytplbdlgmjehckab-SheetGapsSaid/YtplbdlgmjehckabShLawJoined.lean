/-
  inklaw2.SheetJoined.
-/
import Derived.Test.YtplbdlgmjehckabShPut
import Derived.Test.YtplbdlgmjehckabShLaws
import Derived.Test.YtplbdlgmjehckabApp
namespace Go.Proofs.Ytplbdlgmjehckab
open Go.RowKit
set_option linter.unusedVariables false
set_option linter.unusedSimpArgs false

theorem rules_ones {w : World} {xs : List PRule} {vs : List Value} (h : ∀ (i : Nat) (x : PRule) (u : Value), xs[i]? = some x → vs[i]? = some u → RuleAt w u x) : ∀ c ∈ (List.zipWith ruleCells xs vs).flatten, c.oneCell' = true := by
  intro c hc
  obtain ⟨r, hr, hc⟩ := List.mem_flatten.1 hc
  obtain ⟨i, hi, rfl⟩ := List.mem_iff_getElem.1 hr
  simp only [List.length_zipWith] at hi
  rw [List.getElem_zipWith] at hc
  obtain ⟨sv, dv, hu, hs, hd⟩ := h i _ _ (List.getElem?_eq_getElem (by omega)) (List.getElem?_eq_getElem (by omega))
  rw [hu] at hc
  obtain ⟨_, _, rfl, _⟩ := NestAt.form hs
  obtain ⟨_, _, rfl, _⟩ := DeclsAt.form hd
  simp only [ruleCells, vFst, vSnd, List.mem_cons, List.not_mem_nil, or_false] at hc
  rcases hc with rfl | rfl | rfl | rfl | rfl <;> rfl
theorem Placed.get {s : B} : ∀ {rs : List PRule} {e k : Nat} {r : PRule}, Placed s e rs → rs[k]? = some r → ∃ lo hi : Nat, r.lo = (lo : Int) ∧ r.hi = (hi : Int) ∧ lo < hi ∧ hi ≤ s.length
  | [], e, k, r, _, h => by simp at h
  | x :: rs, e, 0, r, ⟨lo, hi, h1, h2, _, h4, h5, _, _⟩, h => by
    simp at h; subst h
    exact ⟨lo, hi, h1, h2, h4, h5⟩
  | x :: rs, e, k + 1, r, ⟨lo, hi, _, _, _, _, _, _, h7⟩, h => Placed.get h7 (by simpa using h)

set_option maxRecDepth 100000 in
set_option maxHeartbeats 3200000 in
theorem sheetJoined_any (w : World) (s t : B) (m : Int) (hm : w.cell? ⟨0, 0, none⟩ = some (.int .i64 m)) (hs : s.length ≤ 9223372036854775807) (ht : t.length ≤ 9223372036854775807) :
    Calls Try.prog 7 #[.string (str s), .string (str t)] w fun e w' => e = .returned (.bool true) ∧ Below w.heap.size w w' := by
  have h0 : 0 < w.heap.size := World.block_lt_of_cell? w _ hm
  have HM := Lib.hid hm
  clear hm
  go_enter Try.func7, Try.ntmps7
  go_wp2_with (go_at_call 17; refine (alive2_any _ m HM.out).mono ?_; rintro e w1 ⟨rfl, hb1⟩)
  have hm1 : w1.cell? ⟨0, 0, none⟩ = some (.int .i64 m) := by rw [hb1.cell h0]; exact HM.out
  cases hp : sParse s with
  | bad f =>
    have hne := (sparse_bad hp).1
    have hneI : ¬ ((f.err : Int) = 0) := by omega
    have HP := Lib.hid hp
    clear hp
    refine (sparse_no s f HP.out w1 m hm1 hs).mono ?_
    rintro e w2 ⟨rfl, hb2⟩
    have hb : Below w.heap.size w w2 := hb1.trans (hb2.mono hb1.size)
    have hg := newIn w2 (.cells #[.int .i64 (f.err : Int), .int .i64 (f.pos : Int)] 26 (0, 0))
    have hbx := hb.alloc hb.size (.cells #[.int .i64 (f.err : Int), .int .i64 (f.pos : Int)] 26 (0, 0))
    clear hb hb1 hb2
    go_upto_region 4 with fail
    generalize (w2.alloc (.cells #[.int .i64 (f.err : Int), .int .i64 (f.pos : Int)] 26 (0, 0))) = w3 at *
    have HB := Lib.hid hbx
    have hm3 : w3.cell? ⟨0, 0, none⟩ = some (.int .i64 m) := by rw [hbx.cell h0]; exact HM.out
    clear hbx
    go_wp2_with fail
    refine (sparse_any t w3 m hm3 ht).mono ?_
    intro e w4 hq
    have hq2 : ∃ v g1 g2, e = .returned (.tuple #[v, .agg #[.int .i64 g1, .int .i64 g2]]) ∧ Below w3.heap.size w3 w4 := by
      unfold SParseEnds at hq
      split at hq
      · exact ⟨_, _, _, hq⟩
      · obtain ⟨v, vs, h1, h2, _⟩ := hq; exact ⟨v, _, _, h1, h2⟩
    obtain ⟨v, g1, g2, rfl, hb4⟩ := hq2
    have hb5 := HB.out.trans (hb4.mono HB.out.size)
    have hg5 := (Kept.of_below (S := fun _ => False) hb4).heap id hg
    have HB5 := Lib.hid (hb5.alloc hb5.size (.cells #[.int .i64 g1, .int .i64 g2] 26 (0, 0)))
    have hg6 := oldIn hg5 (.cells #[.int .i64 g1, .int .i64 g2] 26 (0, 0))
    have f0 : (w4.alloc (.cells #[.int .i64 g1, .int .i64 g2] 26 (0, 0))).cell? ⟨w2.heap.size, 0, none⟩ = some (.int .i64 (f.err : Int)) := cellIn hg6 0 rfl
    clear hq hb4 hb5 hg5 hg hg6
    go_upto_region 5 with fail
    generalize (w4.alloc (.cells #[.int .i64 g1, .int .i64 g2] 26 (0, 0))) = w6 at *
    go_wp2_with fail
    go_ret
    exact ⟨rfl, HB5.out⟩
  | ok xs =>
    have HP := Lib.hid hp
    clear hp
    refine (sparse_ok s xs HP.out w1 m hm1 hs).mono ?_
    rintro e w2 ⟨a2, cap2, rfl, hb2, hn2, hc1, hc2⟩
    unfold maxLen at hc2
    have hb : Below w.heap.size w w2 := hb1.trans (hb2.mono hb1.size)
    have hg := newIn w2 (.cells #[.int .i64 0, .int .i64 0] 26 (0, 0))
    have hbx := hb.alloc hb.size (.cells #[.int .i64 0, .int .i64 0] 26 (0, 0))
    have hd3 := hn2.below ((Below.refl _ w2).alloc (Nat.le_refl _) (.cells #[.int .i64 0, .int .i64 0] 26 (0, 0)))
    clear hb hb1 hb2 hn2 hm1
    go_upto_region 4 with fail
    generalize (w2.alloc (.cells #[.int .i64 0, .int .i64 0] 26 (0, 0))) = w3 at *
    have HB := Lib.hid hbx
    have HA := Lib.hid hd3
    have hm3 : w3.cell? ⟨0, 0, none⟩ = some (.int .i64 m) := by rw [hbx.cell h0]; exact HM.out
    clear hbx hd3
    cases hq : sParse t with
    | bad f =>
      have hne := (sparse_bad hq).1
      have hneI : ¬ ((f.err : Int) = 0) := by omega
      have HQ := Lib.hid hq
      clear hq
      go_wp2_with fail
      refine (sparse_no t f HQ.out w3 m hm3 ht).mono ?_
      rintro e w4 ⟨rfl, hb4⟩
      have hb5 := HB.out.trans (hb4.mono HB.out.size)
      have hg5 := (Kept.of_below (S := fun _ => False) hb4).heap id hg
      have HB5 := Lib.hid (hb5.alloc hb5.size (.cells #[.int .i64 (f.err : Int), .int .i64 (f.pos : Int)] 26 (0, 0)))
      have hg6 := oldIn hg5 (.cells #[.int .i64 (f.err : Int), .int .i64 (f.pos : Int)] 26 (0, 0))
      have hg7 := newIn w4 (.cells #[.int .i64 (f.err : Int), .int .i64 (f.pos : Int)] 26 (0, 0))
      have f0 : (w4.alloc (.cells #[.int .i64 (f.err : Int), .int .i64 (f.pos : Int)] 26 (0, 0))).cell? ⟨w2.heap.size, 0, none⟩ = some (.int .i64 0) := cellIn hg6 0 rfl
      have f1 : (w4.alloc (.cells #[.int .i64 (f.err : Int), .int .i64 (f.pos : Int)] 26 (0, 0))).cell? ⟨w4.heap.size, 0, none⟩ = some (.int .i64 (f.err : Int)) := cellIn hg7 0 rfl
      clear hb4 hb5 hg5 hg hg6 hg7
      go_upto_region 5 with fail
      generalize (w4.alloc (.cells #[.int .i64 (f.err : Int), .int .i64 (f.pos : Int)] 26 (0, 0))) = w6 at *
      go_wp2_with fail
      go_ret
      exact ⟨rfl, HB5.out⟩
    | ok bs =>
      have HQ := Lib.hid hq
      clear hq
      go_wp2_with fail
      refine (sparse_own t bs HQ.out w3 m hm3 ht).mono ?_
      rintro e w4 ⟨a4, cap4, vs4, rfl, hb4, ho4, hc3, hc4⟩
      unfold maxLen at hc4
      have hb5 := HB.out.trans (hb4.mono HB.out.size)
      have hg5 := (Kept.of_below (S := fun _ => False) hb4).heap id hg
      have ha4 := HA.out.below hb4
      have hb6 := hb5.alloc hb5.size (.cells #[.int .i64 0, .int .i64 0] 26 (0, 0))
      have hg6 := oldIn hg5 (.cells #[.int .i64 0, .int .i64 0] 26 (0, 0))
      have hg7 := newIn w4 (.cells #[.int .i64 0, .int .i64 0] 26 (0, 0))
      have f0 : (w4.alloc (.cells #[.int .i64 0, .int .i64 0] 26 (0, 0))).cell? ⟨w2.heap.size, 0, none⟩ = some (.int .i64 0) := cellIn hg6 0 rfl
      have f1 : (w4.alloc (.cells #[.int .i64 0, .int .i64 0] 26 (0, 0))).cell? ⟨w4.heap.size, 0, none⟩ = some (.int .i64 0) := cellIn hg7 0 rfl
      have ha6 := ha4.below ((Below.refl _ w4).alloc (Nat.le_refl _) (.cells #[.int .i64 0, .int .i64 0] 26 (0, 0)))
      have ho6 := ho4.alloc rule_lasts (.cells #[.int .i64 0, .int .i64 0] 26 (0, 0))
      have hsz3 := hb4.size
      have hm6 : (w4.alloc (.cells #[.int .i64 0, .int .i64 0] 26 (0, 0))).cell? ⟨0, 0, none⟩ = some (.int .i64 m) := by rw [hb6.cell h0]; exact HM.out
      have k36 := (Kept.of_below (S := fun _ => False) hb4).alloc (.cells #[.int .i64 0, .int .i64 0] 26 (0, 0))
      clear hb4 hb5 hg5 hg ha4 ho4
      go_upto_region 5 with fail
      have h46 : w4.heap.size < (w4.alloc (.cells #[.int .i64 0, .int .i64 0] 26 (0, 0))).heap.size := by simp
      generalize (w4.alloc (.cells #[.int .i64 0, .int .i64 0] 26 (0, 0))) = w6 at *
      have K36 := Lib.hid k36
      have HB6 := Lib.hid hb6
      have HA6 := Lib.hid ha6
      have HO6 := Lib.hid ho6
      have HG6 := Lib.hid hg6
      have HG7 := Lib.hid hg7
      have HM6 := Lib.hid hm6
      clear k36 hb6 ha6 ho6 hg6 hg7 hm6
      have hsz : ((str s).size : Int) = s.length := by rw [str_size]
      have htz : ((str t).size : Int) = t.length := by rw [str_size]
      have s4 : s.length ≤ 4000 := (parse_inv HP.out).1
      have t4 : t.length ≤ 4000 := (parse_inv HQ.out).1
      have x6 : xs.length ≤ 60 := (parse_inv HP.out).2.1
      have b6 : bs.length ≤ 60 := (parse_inv HQ.out).2.1
      by_cases hl : s.length + t.length + 1 ≤ 4000
      · by_cases hn : xs.length + bs.length ≤ 60
        · have hj := Lib.hid (sheets_joined HP.out HQ.out hl hn)
          have d1 : decide (4000 < (s.length : Int) + t.length + 1) = false := by simp; omega
          have d2 : decide (60 < (xs.length : Int) + bs.length) = false := by simp; omega
          have hst : (s ++ ([10] ++ t)).length ≤ 9223372036854775807 := by simp; omega
          go_wp2_with fail
          refine (sparse_ok (s ++ ([10] ++ t)) _ hj.out w6 m HM6.out hst).mono ?_
          rintro e w7 ⟨a7, cap7, rfl, hb7, hn7, hc5, hc6⟩
          have hlen7 : (xs ++ bs.map (PRule.shift (s.length + 1))).length = xs.length + bs.length := by simp
          rw [hlen7] at hn7 hc5 ⊢
          unfold maxLen at hc6
          have hb8 := (HB6.out.trans (hb7.mono HB6.out.size)).alloc (Nat.le_trans HB6.out.size hb7.size) (.cells #[.int .i64 0, .int .i64 0] 26 (0, 0))
          have ha8 := (HA6.out.below hb7).below ((Below.refl _ w7).alloc (Nat.le_refl _) (.cells #[.int .i64 0, .int .i64 0] 26 (0, 0)))
          have hn8 := hn7.below ((Below.refl _ w7).alloc (Nat.le_refl _) (.cells #[.int .i64 0, .int .i64 0] 26 (0, 0)))
          have hg8 := newIn w7 (.cells #[.int .i64 0, .int .i64 0] 26 (0, 0))
          have h78 : w7.heap.size < (w7.alloc (.cells #[.int .i64 0, .int .i64 0] 26 (0, 0))).heap.size := by simp
          have ho8 := (NestOwn.other (S := fun _ => False) (w' := w7) HO6.out (fun u x _ hq => rule_lasts _ _ _ _ _ _ _ hq (Kept.of_below (S := fun _ => False) hb7) (fun _ _ h => h.elim) (fun _ _ h => h)) (Kept.of_below hb7) (fun _ _ => id)).alloc rule_lasts (.cells #[.int .i64 0, .int .i64 0] 26 (0, 0))
          have hsz7 := hb7.size
          have k68 := (Kept.of_below (S := fun _ => False) hb7).alloc (.cells #[.int .i64 0, .int .i64 0] 26 (0, 0))
          go_upto_region 8 with fail
          generalize (w7.alloc (.cells #[.int .i64 0, .int .i64 0] 26 (0, 0))) = w8 at *
          have K68 := Lib.hid k68
          have HB8 := Lib.hid hb8
          have HA8 := Lib.hid ha8
          have HN8 := Lib.hid hn8
          have HG8 := Lib.hid hg8
          have HO8 := Lib.hid ho8
          clear k68 hb8 ha8 hn8 hg8 ho8 hn7 f0 f1 d1 d2 hb7
          obtain ⟨R, HR⟩ : ∃ y, Hid (PRule.shift (s.length + 1) = y) := ⟨_, rfl⟩
          have hRs : Hid (∀ r, R r = { r with lo := r.lo + (s.length : Int) + 1, hi := r.hi + (s.length : Int) + 1 }) := Lib.hid (by
            intro r; rw [← HR.out]; simp [PRule.shift, Int.add_assoc])
          rw [HR.out] at HN8
          go_upto_block 0 with fail
          go_cut [59] (fun _ wx => ∃ vs, RulesOwn wx w3.heap.size (.slice a4 bs.length cap4) (bs.map R) vs ∧ Kept (fun k => w3.heap.size ≤ k ∧ k < w6.heap.size) w8 wx)
          case first =>
            go_wp2_with fail
            go_loopw [59] (fun i wr => ∃ (k : Nat) (vs : List Value), k ≤ bs.length ∧ i = .int .i64 k ∧ Hid (RulesOwn wr w3.heap.size (.slice a4 bs.length cap4) ((bs.take k).map R ++ bs.drop k) vs) ∧ Hid (Kept (fun k => w3.heap.size ≤ k ∧ k < w6.heap.size) w8 wr)) (fun i _ => bs.length - (intOf i).toNat)
            case atStart => exact ⟨0, vs4, by omega, rfl, by simpa using HO8, Lib.hid (Kept.refl _ _)⟩
            case round =>
              obtain ⟨k, vs, hk, rfl, HO, HK⟩ := hrel
              by_cases hlt : k < bs.length
              · have hx := List.getElem?_eq_getElem hlt
                generalize hgx : bs[k] = x at hx
                clear hgx
                have hxk : ((bs.take k).map R ++ bs.drop k)[k]? = some x := by
                  rw [List.getElem?_append_right (by simp; omega)]
                  simp only [List.length_map, List.length_take, List.getElem?_drop]
                  rw [show k + (k - min k bs.length) = k from by omega, hx]
                obtain ⟨g4, rfl⟩ : ∃ g4, a4 = some ⟨g4, 0, none⟩ := by
                  rcases HO.out.own.2 with ⟨h, hn⟩ | ⟨g, cap, cur, h, _⟩
                  · simp at h; omega
                  · simp only [Value.slice.injEq] at h; exact ⟨g, h.1⟩
                obtain ⟨cur, hgh⟩ : ∃ cur, wr.heap[g4]? = some (.cells cur 42 (0, 0)) := by
                  rcases HO.out.own.2 with ⟨h, hn⟩ | ⟨g, cap, cur, h, _, hh, _⟩
                  · simp at h
                  · simp only [Value.slice.injEq, Option.some.injEq, Addr.mk.injEq] at h
                    obtain ⟨⟨rfl, _⟩, _⟩ := h
                    exact ⟨cur, hh⟩
                have hg6 : w3.heap.size ≤ g4 ∧ g4 < w6.heap.size := HO6.out.own.lt g4 rfl
                obtain ⟨b, off, u, hbb, hc, _⟩ := NestIn.at (HO.out.done ruleCells_len rule_lasts) hxk
                cases hbb
                have q3 := hc 3 (.int .i64 x.lo) rfl
                have q4 := hc 4 (.int .i64 x.hi) rfl
                simp only [Nat.zero_add] at q3 q4
                have fz := freeIn hgh
                have fr3 := fz (k * 5 + 3)
                obtain ⟨lo, hi, hlo, hhi, hlh, hht⟩ := (parse_placed HQ.out).get hx
                rw [hlo] at q3
                have hO1 := HO.out.put (j := 3) (c := .int .i64 ((lo : Int) + (s.length : Int) + 1)) (x' := { x with lo := (lo : Int) + (s.length : Int) + 1 }) ruleCells_len rule_lasts hxk (by omega) (fun u => rfl) (fun w X u h => h)
                have HXX := Lib.hid hx
                have HLO := Lib.hid hlo
                have HHI := Lib.hid hhi
                have HXK := Lib.hid hxk
                have HO1 := Lib.hid hO1
                clear hx hlo hhi hxk hc hO1 q4
                have K1 := Lib.hid (HK.out.setCell (p := ⟨g4, k * 5 + 3, none⟩) (.inl hg6) (.int .i64 ((lo : Int) + (s.length : Int) + 1)))
                go_upto_region 12 with fail
                generalize (wr.setCell ⟨g4, k * 5 + 3, none⟩ (.int .i64 ((lo : Int) + (s.length : Int) + 1))) = w9 at *
                have hkl : k < ((bs.take k).map R ++ bs.drop k).length := (List.getElem?_eq_some_iff.1 HXK.out).1
                have hxk1 : (((bs.take k).map R ++ bs.drop k).set k { x with lo := (lo : Int) + (s.length : Int) + 1 })[k]? = some { x with lo := (lo : Int) + (s.length : Int) + 1 } := List.getElem?_set_self hkl
                obtain ⟨cur2, hgh2⟩ : ∃ cur, w9.heap[g4]? = some (.cells cur 42 (0, 0)) := by
                  rcases HO1.out.own.2 with ⟨h, hn⟩ | ⟨g, cap, cur, h, _, hh, _⟩
                  · simp at h
                  · simp only [Value.slice.injEq, Option.some.injEq, Addr.mk.injEq] at h
                    obtain ⟨⟨rfl, _⟩, _⟩ := h
                    exact ⟨cur, hh⟩
                obtain ⟨b2, off2, u2, hbb2, hc2, _⟩ := NestIn.at (HO1.out.done ruleCells_len rule_lasts) hxk1
                cases hbb2
                have q4 := hc2 4 (.int .i64 x.hi) rfl
                simp only [Nat.zero_add] at q4
                rw [HHI.out] at q4
                have fr4 := freeIn hgh2 (k * 5 + 4)
                have hO2 := HO1.out.put (j := 4) (c := .int .i64 ((hi : Int) + (s.length : Int) + 1)) (x' := { x with lo := (lo : Int) + (s.length : Int) + 1, hi := (hi : Int) + (s.length : Int) + 1 }) ruleCells_len rule_lasts hxk1 (by omega) (fun u => rfl) (fun w X u h => h)
                have hset : (((bs.take k).map R ++ bs.drop k).set k { x with lo := (lo : Int) + (s.length : Int) + 1 }).set k { x with lo := (lo : Int) + (s.length : Int) + 1, hi := (hi : Int) + (s.length : Int) + 1 } = (bs.take (k + 1)).map R ++ bs.drop (k + 1) := by
                  rw [List.set_set]
                  have e1 : R x = { x with lo := (lo : Int) + (s.length : Int) + 1, hi := (hi : Int) + (s.length : Int) + 1 } := by rw [hRs.out, HLO.out, HHI.out]
                  rw [← e1, List.take_add_one, HXX.out, List.set_append_right _ _ (by simp; omega)]
                  have e2 : k - ((bs.take k).map R).length = 0 := by simp; omega
                  rw [e2]
                  have e3 : bs.drop k = x :: bs.drop (k + 1) := by
                    obtain ⟨h1, h2⟩ := List.getElem?_eq_some_iff.1 HXX.out
                    rw [List.drop_eq_getElem_cons h1, h2]
                  rw [e3]; simp
                rw [hset] at hO2
                have K2 := Lib.hid (K1.out.setCell (p := ⟨g4, k * 5 + 4, none⟩) (.inl hg6) (.int .i64 ((hi : Int) + (s.length : Int) + 1)))
                have HO2 := Lib.hid hO2
                clear q3 hc2 hxk1 hset hO2 hgh2 hgh fz fr3
                go_wp2_with fail
                go_roundw
                case measure => simp [intOf]; omega
                case rel => exact ⟨k + 1, vs, by omega, by go_num, HO2, K2⟩
              · obtain rfl : k = bs.length := by omega
                go_wp2_with fail
                go_meet
                case rel =>
                  have h1 := HO.out
                  rw [List.take_length, List.drop_length, List.append_nil] at h1
                  exact ⟨vs, h1, HK.out⟩
          case rest =>
            obtain ⟨vs, hO, hK⟩ := hcut
            have HK := Lib.hid hK
            have k8c : Kept (fun k => w3.heap.size ≤ k) w3 wc := ((K36.out.trans K68.out).mono (fun _ _ h => h.elim)).trans (hK.mono (fun k _ h => h.1))
            have hA3 := rules_lasts _ _ _ (fun k => w3.heap.size ≤ k) _ _ _ HA.out (Kept.refl (fun _ => False) _) (fun _ _ h => h.elim) (fun k h1 h2 => by omega)
            have hAt := rules_reads (rules_lasts _ _ _ (fun k => w3.heap.size ≤ k) _ _ _ hA3 k8c (fun _ _ h => h) (fun _ _ h => h))
            have hBt := rules_reads (hO.done ruleCells_len rule_lasts)
            have hCt := rules_reads (rules_lasts _ _ _ (fun _ => False) _ _ _ HN8.out hK (fun k _ h => h.2) (fun _ _ h => h.elim))
            have f0 : wc.cell? ⟨w7.heap.size, 0, none⟩ = some (.int .i64 0) := cellIn (hK.heap (by omega) HG8.out) 0 rfl
            have HAT := Lib.hid hAt
            have HBT := Lib.hid hBt
            have HCT := Lib.hid hCt
            have HB9 := Lib.hid (((Kept.of_below (S := fun _ => False) HB8.out).trans' hK (fun i hi h => by have := HB.out.size; omega)).below)
            clear hO hK k8c hA3 hAt hBt hCt
            obtain ⟨i0, hi0, hz0, hz1, hz2⟩ := info_parts info_rule
            obtain ⟨wd, HWD⟩ : ∃ y, Hid (wc.alloc (.cells #[] 42 (0, 0)) = y) := ⟨_, rfl⟩
            have kd : Kept (fun _ => False) wc wd := by rw [← HWD.out]; exact (Kept.refl _ wc).alloc _
            have hod : wd.ownsRow wc.heap.size 42 5 (.slice (some ⟨wc.heap.size, 0, none⟩) 0 0) 0 [] := by rw [← HWD.out]; exact owns_built wc _ _ _ (Nat.le_refl _)
            obtain ⟨vsa, hva1, hva2, hva3⟩ := HAT.out
            obtain ⟨a10, c10, w10, hr10, ho10, k10, hl10⟩ := append_any (P := Try.prog) wd 23 23 wc.heap.size 42 i0 _ 5 80 Try.underlying23 hi0 hz0 hz1 hz2 rfl (by omega) _ 0 0 [] hod a2 xs.length cap2 _ (hva2.below kd.below) (zipRows ruleCells_len) (rules_ones hva3) (by unfold maxLen; omega) (by omega) (by have := kd.size; omega)
            have k10' : Kept (fun k => k = wc.heap.size) wd w10 := k10.mono (fun k _ h => by simp only [Value.ownBlock, Option.some.injEq] at h; exact h.symm)
            have kc10 : Kept (fun _ => False) wc w10 := kd.trans' k10' (fun i hi h => by omega)
            have hlb : (bs.map R).length = bs.length := by simp
            have hbt2 := HBT.out
            rw [show (Value.slice a4 bs.length cap4) = .slice a4 bs.length cap4 from rfl] at hbt2
            obtain ⟨vsb, hvb1, hvb2, hvb3⟩ := hbt2
            obtain ⟨a11, c11, w11, hr11, ho11, k11, hl11⟩ := append_any (P := Try.prog) w10 23 23 wc.heap.size 42 i0 _ 5 80 Try.underlying23 hi0 hz0 hz1 hz2 rfl (by omega) a10 (0 + xs.length) c10 _ ho10 a4 bs.length cap4 _ (hvb2.below kc10.below) (zipRows ruleCells_len) (rules_ones hvb3) (by unfold maxLen; omega) (by omega) (by have := kc10.size; omega)
            have kc11 : Kept (fun _ => False) wc w11 := kc10.trans' k11 (fun i hi h => by have := (ho10.lt i h).1; omega)
            have hfin : RulesAt w11 (.slice a11 (0 + xs.length + bs.length) c11) (xs ++ bs.map R) := by
              refine ⟨vsa ++ vsb, by simp [hva1, hvb1], ?_, fun i x u hx hu => ?_⟩
              · rw [List.zipWith_append (by rw [hva1])]
                refine rowsAt_of_owns (base := wc.heap.size) (e := 42) (n := 0 + xs.length + bs.length) (fun r hr => ?_) (by simp [hva1, hvb1]) (by simpa using ho11)
                rcases List.mem_append.1 hr with hr | hr
                · exact zipRows ruleCells_len r hr
                · exact zipRows ruleCells_len r hr
              · by_cases hi : i < xs.length
                · rw [List.getElem?_append_left hi] at hx
                  rw [List.getElem?_append_left (by omega)] at hu
                  exact rule_firm.kept (hva3 i x u hx hu) kc11
                · rw [List.getElem?_append_right (by omega)] at hx
                  rw [List.getElem?_append_right (by omega), hva1] at hu
                  exact rule_firm.kept (hvb3 _ x u hx hu) kc11
            have hct := rules_firm.kept HCT.out kc11
            rw [← HWD.out] at hr10
            have HFIN := Lib.hid hfin
            have HC11 := Lib.hid hct
            have HK11 := Lib.hid kc11
            have hRl : (xs ++ bs.map R).length = xs.length + bs.length := by simp
            rw [Nat.zero_add] at hr10 hr11 HFIN
            clear kd hod k10 k10' hl10 ho10 kc10 k11 kc11 hl11 ho11 hfin hct hva1 hva2 hva3 hvb1 hvb2 hvb3 hlb hRl
            have HR10 := Lib.hid hr10
            have HR11 := Lib.hid hr11
            clear hr10 hr11
            go_wp2_with (first
              | (at_builtin; refine wpList_append_eq (by rfl) _ _ _ rfl _ _ _ rfl rfl _ HR11.out ?_)
              | (at_builtin; refine wpList_append_eq (by rfl) _ _ _ rfl _ _ _ rfl rfl _ HR10.out ?_)
              | (go_at_call 11; refine (sameRules_any _ _ _ _ HC11.out HFIN.out).mono ?_; rintro e w12 ⟨rfl, hq12⟩))
            go_ret
            exact ⟨rfl, (((Kept.of_below (S := fun _ => False) HB9.out).trans HK11.out).trans (hq12.kept _)).below⟩
        · have d1 : decide (4000 < (s.length : Int) + t.length + 1) = false := by simp; omega
          have d2 : decide (60 < (xs.length : Int) + bs.length) = true := by simp; omega
          go_wp2_with fail
          go_ret
          exact ⟨rfl, HB6.out⟩
      · have d1 : decide (4000 < (s.length : Int) + t.length + 1) = true := by simp; omega
        go_wp2_with fail
        go_ret
        exact ⟨rfl, HB6.out⟩

end Go.Proofs.Ytplbdlgmjehckab
