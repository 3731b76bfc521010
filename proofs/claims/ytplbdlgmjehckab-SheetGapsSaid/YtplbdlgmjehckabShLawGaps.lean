/-
  inklaw2.SheetGaps.
-/
import Derived.Test.YtplbdlgmjehckabShLawJoined
import Derived.Test.YtplbdlgmjehckabShBytes
import Derived.Deep.RegionHeld3
namespace Go.Proofs.Ytplbdlgmjehckab
open Go.RowKit
set_option linter.unusedVariables false
set_option linter.unusedSimpArgs false

section
variable {P : Program}
/-- at a step of a region that draws its order, guarded or not: by the run's equation -/
theorem step_append_eq {ops : Array Oper} {o : Oper} {a : Act} {w : World} {K : Act → World → Prop} {Q : Exit → Act → World → Prop} {E : Prop} (hw : Region.wanted o (yielded ops a.tmps) = true) (s x : Operand) (t : TypeId)
    (ho : o.op = .call { callee := .builtin .append, args := #[s, x], argTypes := #[t, t] }) (sv xv v : Value) (hs : a.eval s = sv) (hx : a.eval x = xv) (w' : World)
    (hr : (Builtin.append_ #[t, t] o.type #[sv, xv]).run P w = .ok v w') (h : K (a.put o.dst v) w') : if Region.wanted o (yielded ops a.tmps) = true then Oper.wp P o a w K Q else E := by
  rw [if_pos hw]
  unfold Oper.wp execOp
  simp only [ho, resolve, invoke, builtin, Sem.run_bind, Sem.run_pure, Result.andThen_ok, List.map_toArray, List.map_cons, List.map_nil, hs, hx, hr]
  exact h
end
theorem NestAt.drop {α : Type} {f : α → Value → List Value} {size : Nat} {Q : World → Value → α → Prop} {w : World} {b off len cap : Nat} {xs : List α} (h : NestAt f size Q w (.slice (some ⟨b, off, none⟩) len cap) xs) {n : Nat} (hn : n ≤ len) :
    NestAt f size Q w (.slice (some ⟨b, off + n * size, none⟩) (len - n) (cap - n)) (xs.drop n) := by
  obtain ⟨vs, h0, ⟨a', cap', hv, h1, h2, h3⟩, h4⟩ := h
  simp only [Value.slice.injEq] at hv
  obtain ⟨rfl, hl, rfl⟩ := hv
  simp only [List.length_zipWith] at hl h1
  rw [h0, Nat.min_self] at hl h1
  refine ⟨vs.drop n, by simp [h0], ⟨some ⟨b, off + n * size, none⟩, cap - n, by simp [h0, hl], by simp [h0]; omega, by omega, fun hne => ?_⟩, fun i x u hx hu => ?_⟩
  · have hne' : List.zipWith f xs vs ≠ [] := by
      intro e
      apply hne
      rw [← List.drop_zipWith, e, List.drop_nil]
    obtain ⟨b', off', hb, h5⟩ := h3 hne'
    cases hb
    refine ⟨_, _, rfl, fun i r hr j c hj => ?_⟩
    rw [← List.drop_zipWith, List.getElem?_drop] at hr
    have := h5 (n + i) r hr j c hj
    rw [Nat.add_mul, ← Nat.add_assoc] at this
    exact this
  · rw [List.getElem?_drop] at hx hu
    exact h4 (n + i) x u hx hu
theorem NestAt.take {α : Type} {f : α → Value → List Value} {size : Nat} {Q : World → Value → α → Prop} {w : World} {b off len cap : Nat} {xs : List α} (h : NestAt f size Q w (.slice (some ⟨b, off, none⟩) len cap) xs) {n : Nat} (hn : n ≤ len) :
    NestAt f size Q w (.slice (some ⟨b, off, none⟩) n cap) (xs.take n) := by
  obtain ⟨vs, h0, ⟨a', cap', hv, h1, h2, h3⟩, h4⟩ := h
  simp only [Value.slice.injEq] at hv
  obtain ⟨rfl, hl, rfl⟩ := hv
  simp only [List.length_zipWith] at hl h1
  rw [h0, Nat.min_self] at hl h1
  refine ⟨vs.take n, by simp [h0], ⟨some ⟨b, off, none⟩, cap, by simp [h0]; omega, by simp [h0]; omega, h2, fun hne => ?_⟩, fun i x u hx hu => ?_⟩
  · have hne' : List.zipWith f xs vs ≠ [] := by
      intro e
      apply hne
      rw [← List.take_zipWith, e, List.take_nil]
    obtain ⟨b', off', hb, h5⟩ := h3 hne'
    cases hb
    refine ⟨_, _, rfl, fun i r hr j c hj => ?_⟩
    rw [← List.take_zipWith] at hr
    exact h5 i r (by rw [List.getElem?_take] at hr; split at hr; exact hr; cases hr) j c hj
  · rw [List.getElem?_take] at hx hu
    split at hx
    · rename_i hin
      rw [if_pos hin] at hu
      exact h4 i x u hx hu
    · cases hx
/-- the text, blank from lo up to k -/
def gapUpto (s : B) (lo k : Nat) : B := s.take lo ++ (List.replicate (k - lo) 32 ++ s.drop k)
theorem gap_len (s : B) {lo k : Nat} (h1 : lo ≤ k) (h2 : k ≤ s.length) : (gapUpto s lo k).length = s.length := by
  unfold gapUpto; simp; omega
theorem gap_self (s : B) (lo : Nat) : gapUpto s lo lo = s := by unfold gapUpto; simp
theorem gap_set (s : B) {lo k : Nat} (h1 : lo ≤ k) (h2 : k < s.length) : (gapUpto s lo k).set k 32 = gapUpto s lo (k + 1) := by
  unfold gapUpto
  rw [List.set_append_right _ _ (by simp; omega), List.set_append_right _ _ (by simp; omega)]
  have e : k - (s.take lo).length - (List.replicate (k - lo) (32 : UInt8)).length = 0 := by simp; omega
  rw [e, List.drop_eq_getElem_cons h2, List.set_cons_zero, show k + 1 - lo = (k - lo) + 1 by omega, List.replicate_succ', List.append_assoc]
  rfl
/-- 'string(b)' -/
theorem bytes_back (l : B) (w : World) (b cap : Nat) (h : BytesAt w b l) : (convert 37 9 (.slice (some ⟨b, 0, none⟩) l.length cap)).run Try.prog w = .ok (.string (str l)) w :=
  run_convert_bytes_back w 37 9 5 ⟨b, 0, none⟩ cap l Try.underlying37 Try.underlying5 Try.underlying9 (fun j hj => by
    rw [add_at, Nat.zero_add]
    exact h.cell j hj)

theorem owns_empty_rule {w : World} {base G : Nat} (hG : w.heap[G]? = some (.cells #[] 42 (0, 0))) (hb : base ≤ G) : w.ownsRow base 42 5 (.slice (some ⟨G, 0, none⟩) 0 0) 0 [] :=
  ⟨by simp, .inr ⟨G, 0, #[], rfl, hb, hG, Nat.le_refl _, by unfold maxLen; omega, by simp, by simp⟩⟩
/-- at a drawn step: rules are appended to a row of one's own -/
theorem arm_rules {ops : Array Oper} {o : Oper} {a : Act} {K : Act → World → Prop} {Q : Exit → Act → World → Prop} {E : Prop} {w6 wc : World} {i0 : TypeInfo} (hi0 : Try.prog.info? 42 = some i0) {z : Value} (hz0 : i0.zero = some z) (hz3 : z.cells.size = 5) (hz1 : i0.size = 5) (hz2 : i0.bytes = 80)
    (hw : Region.wanted o (yielded ops a.tmps) = true) (s x : Operand) (ho : o.op = .call { callee := .builtin .append, args := #[s, x], argTypes := #[23, 23] })
    (ao sa : Option Addr) (co sc n m N : Nat) (hN : n + m = N) (xs : List Value) (rows : List (List Value)) (hs : a.eval s = .slice ao n co) (hx : a.eval x = .slice sa m sc) (hO : wc.ownsRow w6.heap.size 42 5 (.slice ao n co) n xs) (hK : Kept (fun _ => False) w6 wc)
    (hr : RowsAt w6 5 (.slice sa m sc) rows) (hl : ∀ r ∈ rows, r.length = 5) (h1 : ∀ u ∈ rows.flatten, u.oneCell' = true) (hn : n ≤ 60) (hm : m ≤ 60)
    (h : ∀ a' c' w', w'.ownsRow w6.heap.size 42 5 (.slice a' N c') N (xs ++ rows.flatten) → Kept (fun _ => False) w6 w' → K (a.put o.dst (.slice a' N c')) w') :
    if Region.wanted o (yielded ops a.tmps) = true then Oper.wp Try.prog o a wc K Q else E := by
  subst hN
  obtain ⟨a6, c6, w', hr6, ho6, k6, _⟩ := append_any (P := Try.prog) wc 23 o.type w6.heap.size 42 i0 z 5 80 Try.underlying23 hi0 hz0 hz1 hz2 hz3 (by omega) ao n co xs hO sa m sc rows (RowsAt.below hr hK.below) hl h1 (by unfold maxLen; omega) (by omega) hK.size
  refine step_append_eq hw s x _ ho _ _ _ hs hx w' hr6 (h a6 c6 w' ho6 (hK.trans' k6 (fun i hi hx => ?_)))
  have := (hO.lt i hx).1; omega

set_option maxRecDepth 100000 in
set_option maxHeartbeats 3200000 in
theorem sheetGaps_any (w : World) (s : B) (i : Int) (m : Int) (hm : w.cell? ⟨0, 0, none⟩ = some (.int .i64 m)) (hs : s.length ≤ 9223372036854775807) (hi : -9223372036854775808 ≤ i ∧ i ≤ 9223372036854775807) :
    Calls Try.prog 5 #[.string (str s), .int .i64 i] w fun e w' => e = .returned (.bool true) ∧ Below w.heap.size w w' := by
  have h0 : 0 < w.heap.size := World.block_lt_of_cell? w _ hm
  have HM := Lib.hid hm
  clear hm
  go_enter Try.func5, Try.ntmps5
  go_wp2_with (go_at_call 17; refine (alive2_any _ m HM.out).mono ?_; rintro e w1 ⟨rfl, hb1⟩)
  have hm1 : w1.cell? ⟨0, 0, none⟩ = some (.int .i64 m) := by rw [hb1.cell h0]; exact HM.out
  cases hp : sParse s with
  | bad f =>
    obtain ⟨hne, hpos⟩ := sparse_bad hp
    have hneI : ¬ ((f.err : Int) = 0) := by omega
    have HP := Lib.hid hp
    clear hp
    refine (sparse_no s f HP.out w1 m hm1 hs).mono ?_
    rintro e w2 ⟨rfl, hb2⟩
    have hb : Below w.heap.size w w2 := hb1.trans (hb2.mono hb1.size)
    have hg := newIn w2 (.cells #[.int .i64 (f.err : Int), .int .i64 (f.pos : Int)] 26 (0, 0))
    have hbx := hb.alloc hb.size (.cells #[.int .i64 (f.err : Int), .int .i64 (f.pos : Int)] 26 (0, 0))
    clear hb hb1 hb2
    go_upto_region 4 with fail
    generalize (w2.alloc (.cells #[.int .i64 (f.err : Int), .int .i64 (f.pos : Int)] 26 (0, 0))) = w3 at *
    have HB := Lib.hid hbx
    have f0 : w3.cell? ⟨w2.heap.size, 0, none⟩ = some (.int .i64 (f.err : Int)) := cellIn hg 0 rfl
    clear hbx
    go_wp2_with fail
    go_ret
    exact ⟨rfl, HB.out⟩
  | ok xs =>
    have HP := Lib.hid hp
    clear hp
    refine (sparse_ok s xs HP.out w1 m hm1 hs).mono ?_
    rintro e w2 ⟨a2, cap2, rfl, hb2, hn2, hc1, hc2⟩
    unfold maxLen at hc2
    have hb : Below w.heap.size w w2 := hb1.trans (hb2.mono hb1.size)
    have hg := newIn w2 (.cells #[.int .i64 0, .int .i64 0] 26 (0, 0))
    have hbx := hb.alloc hb.size (.cells #[.int .i64 0, .int .i64 0] 26 (0, 0))
    have hd3 := hn2.below ((Below.refl _ w2).alloc (Nat.le_refl _) (.cells #[.int .i64 0, .int .i64 0] 26 (0, 0)))
    have HA2 := Lib.hid (rules_reads hn2)
    have hk23 : Kept (fun _ => False) w2 (w2.alloc (.cells #[.int .i64 0, .int .i64 0] 26 (0, 0))) := (Kept.refl _ w2).alloc _
    have hq3 : w2.heap.size < (w2.alloc (.cells #[.int .i64 0, .int .i64 0] 26 (0, 0))).heap.size := ltIn hg
    have hwq : w.heap.size ≤ w2.heap.size := hb.size
    clear hb hb1 hb2 hn2 hm1
    go_upto_region 4 with fail
    generalize (w2.alloc (.cells #[.int .i64 0, .int .i64 0] 26 (0, 0))) = w3 at *
    obtain ⟨q, HQ⟩ : ∃ y, Hid (w2.heap.size = y) := ⟨_, rfl⟩
    have K23 := Lib.hid hk23
    clear hk23
    rw [HQ.out] at hg hq3 hwq ⊢
    have f0 : w3.cell? ⟨q, 0, none⟩ = some (.int .i64 0) := cellIn hg 0 rfl
    have HG := Lib.hid hg
    have HB := Lib.hid hbx
    have HA := Lib.hid (rules_reads hd3)
    have hm3 : w3.cell? ⟨0, 0, none⟩ = some (.int .i64 m) := by rw [hbx.cell h0]; exact HM.out
    have HM3 := Lib.hid hm3
    obtain ⟨hs4, hx60, _⟩ := parse_inv HP.out
    have HPL := Lib.hid (parse_placed HP.out)
    clear hbx hd3 hm3 hg
    by_cases hi1 : i < 0
    · go_wp2_with fail
      go_ret
      exact ⟨rfl, HB.out⟩
    · by_cases hi2 : (xs.length : Int) ≤ i
      · go_wp2_with fail
        go_ret
        exact ⟨rfl, HB.out⟩
      · obtain ⟨n, rfl⟩ : ∃ n : Nat, i = (n : Int) := ⟨i.toNat, by omega⟩
        have hnl : n < xs.length := by omega
        have hx := List.getElem?_eq_getElem hnl
        generalize hgx : xs[n] = x at hx
        clear hgx
        obtain ⟨lo, hi', hlo, hhi, h1, h2⟩ := Placed.get HPL.out hx
        have HGP := Lib.hid (sheet_gaps HP.out hx hlo hhi (Nat.le_of_lt h1) h2)
        obtain ⟨md, sl, dl, xl, xh⟩ := x
        simp only at hlo hhi
        subst hlo; subst hhi
        obtain ⟨b, o, u, rfl, hcs, hru⟩ := NestAt.at HA.out hx
        have c3 : w3.cell? ⟨b, o + n * 5 + 3, none⟩ = some (.int .i64 (lo : Int)) := hcs 3 _ rfl
        have c4 : w3.cell? ⟨b, o + n * 5 + 4, none⟩ = some (.int .i64 (hi' : Int)) := hcs 4 _ rfl
        obtain ⟨wb, cp, hcv, hkb, hbb⟩ := bytes_new s w3
        obtain ⟨bb, HBB⟩ : ∃ y, Hid (w3.heap.size = y) := ⟨_, rfl⟩
        rw [HBB.out] at hcv hbb
        have HBY := Lib.hid hbb
        have HKB := Lib.hid hkb
        have d3 := hkb.cell id c3
        clear hbb hkb hcs hru hx
        go_upto_block 0 with fail
        go_wp2_with fail
        go_loopw [8] (fun e wr => ∃ k : Nat, lo ≤ k ∧ k ≤ hi' ∧ e = .int .i64 k ∧ Hid (BytesAt wr bb (gapUpto s lo k)) ∧ Hid (Kept (fun _ => False) w3 wr)) (fun e _ => hi' - (intOf e).toNat)
        case atStart => exact ⟨lo, by omega, by omega, rfl, Lib.hid (by rw [gap_self]; exact HBY.out), HKB⟩
        case round =>
          obtain ⟨k, hk1, hk2, rfl, HBK, HKK⟩ := hrel
          have d4 : wr.cell? ⟨b, o + n * 5 + 4, none⟩ = some (.int .i64 (hi' : Int)) := HKK.out.cell id c4
          have hgl := gap_len s hk1 (Nat.le_trans hk2 h2)
          by_cases hlt : k < hi'
          · have e0 := HBK.out.cell k (by rw [hgl]; omega)
            have e1 := HBK.out.free k (by rw [hgl]; omega)
            have hnx : BytesAt (wr.setCell ⟨bb, k, none⟩ (.int .u8 32)) bb (gapUpto s lo (k + 1)) := by
              rw [← gap_set s hk1 (by omega)]
              exact HBK.out.put k 32
            have HNX := Lib.hid hnx
            have HKX : Hid (Kept (fun _ => False) w3 (wr.setCell ⟨bb, k, none⟩ (.int .u8 32))) := Lib.hid (HKK.out.setCell (p := ⟨bb, k, none⟩) (.inr (by rw [HBB.out]; exact Nat.le_refl _)) _)
            clear hnx
            go_wp2_with fail
            go_roundw
            case measure => simp [intOf]; omega
            case rel => exact ⟨k + 1, by omega, by omega, by go_num, HNX, HKX⟩
          · obtain rfl : k = hi' := by omega
            have hcb := bytes_back _ wr bb cp HBK.out
            rw [hgl] at hcb
            have hq4 := HKK.out.heap id HG.out
            obtain ⟨ys, HYS⟩ : ∃ y, Hid (xs.take n ++ xs.drop (n + 1) = y) := ⟨_, rfl⟩
            have hgp := HGP.out
            rw [HYS.out] at hgp
            have HPC := Lib.hid (sparse_ok (gapUpto s lo k) ys hgp wr m (HKK.out.cell id HM3.out) (by omega))
            clear hgp
            go_wp2_with fail
            refine HPC.out.mono ?_
            rintro e w5 ⟨a5, cap5, rfl, hb5, hn5, hc5, hc5'⟩
            unfold maxLen at hc5'
            have hq5 := (Kept.of_below (S := fun _ => False) hb5).heap id hq4
            have q0 := cellIn hq5 0 rfl
            have q1 := cellIn hq5 1 rfl
            have g0 := freeIn hq5 0
            have g1 := freeIn hq5 1
            have K5 := Lib.hid (HKK.out.trans (Kept.of_below hb5))
            obtain ⟨w6, HW6⟩ : ∃ y, Hid ((w5.setCell ⟨q, 0, none⟩ (.int .i64 0)).setCell ⟨q, 1, none⟩ (.int .i64 0) = y) := ⟨_, rfl⟩
            have k56 : Kept (· = q) w5 w6 := by rw [← HW6.out]; exact ((Kept.refl (· = q) w5).setCell (p := ⟨q, 0, none⟩) (.inl rfl) _).setCell (p := ⟨q, 1, none⟩) (.inl rfl) _
            have hqr : q < wr.heap.size := Nat.lt_of_lt_of_le hq3 HKK.out.size
            have K56 := Lib.hid k56
            have HN6 := Lib.hid (rules_reads (rules_lasts _ _ _ _ (· = q) _ _ hn5 k56 (fun k _ (hs : k = q) => by rw [hs]; exact hqr) (fun _ _ h => h)))
            have K26 : Hid (Kept (fun _ => False) w2 w6) := Lib.hid ((K23.out.trans K5.out).trans' k56 (fun i hi (h : i = q) => by have := HQ.out; omega))
            have s6 : w6.cell? ⟨q, 0, none⟩ = some (.int .i64 0) := by
              rw [← HW6.out]
              exact cellIn (setIn (setIn hq5 0 (.int .i64 0)) 1 (.int .i64 0)) 0 rfl
            obtain ⟨i0, hi0, hz0, hz1, hz2⟩ := info_parts info_rule
            have hA6 := rules_firm.kept HA2.out K26.out
            obtain ⟨va, hva1, hva2, hva3⟩ := NestAt.take hA6 (n := n) (Nat.le_of_lt hnl)
            obtain ⟨vb, hvb1, hvb2, hvb3⟩ := NestAt.drop hA6 (n := n + 1) hnl
            have htl : (xs.take n).length = n := by simp; omega
            have hdl : (xs.drop (n + 1)).length = xs.length - (n + 1) := by simp
            have hn60 : n ≤ 60 := by omega
            have hm60 : xs.length - (n + 1) ≤ 60 := by omega
            have HR1 := Lib.hid hva2
            have HR2 := Lib.hid hvb2
            have HR3 : Hid (cap2 = n + 1 → RowsAt w6 5 (.slice (some ⟨b, o, none⟩) (xs.length - (n + 1)) (cap2 - (n + 1))) (List.zipWith ruleCells (xs.drop (n + 1)) vb)) := Lib.hid fun hc => by
              have h0 : xs.drop (n + 1) = [] := List.drop_of_length_le (by omega)
              rw [h0]
              exact ⟨some ⟨b, o, none⟩, cap2 - (n + 1), by simp; omega, by simp, by unfold maxLen; omega, fun hx => absurd rfl hx⟩
            have HO1 := Lib.hid (rules_ones hva3)
            have HO2 := Lib.hid (rules_ones hvb3)
            have HFIN : Hid (∀ (w8 : World) (a8 : Option Addr) (c8 : Nat), w8.ownsRow w6.heap.size 42 5 (.slice a8 (n + (xs.length - (n + 1))) c8) (n + (xs.length - (n + 1))) ([] ++ (List.zipWith ruleCells (xs.take n) va).flatten ++ (List.zipWith ruleCells (xs.drop (n + 1)) vb).flatten) → Kept (fun _ => False) w6 w8 →
                RulesAt w8 (.slice a8 (n + (xs.length - (n + 1))) c8) ys) := Lib.hid fun w8 a8 c8 ho8 kc8 => by
              rw [← HYS.out]
              refine ⟨va ++ vb, by simp [hva1, hvb1], ?_, fun i x u hx hu => ?_⟩
              · rw [List.zipWith_append (by rw [hva1])]
                refine rowsAt_of_owns (base := w6.heap.size) (e := 42) (n := n + (xs.length - (n + 1))) (fun r hr => ?_) (by simp [hva1, hvb1]; omega) (by simpa using ho8)
                rcases List.mem_append.1 hr with hr | hr
                · exact zipRows ruleCells_len r hr
                · exact zipRows ruleCells_len r hr
              · by_cases hi : i < (xs.take n).length
                · rw [List.getElem?_append_left hi] at hx
                  rw [List.getElem?_append_left (by omega)] at hu
                  exact rule_firm.kept (hva3 i x u hx hu) kc8
                · rw [List.getElem?_append_right (by omega)] at hx
                  rw [List.getElem?_append_right (by omega), hva1] at hu
                  exact rule_firm.kept (hvb3 _ x u hx hu) kc8
            have HSR : Hid (∀ (w8 : World) (a8 : Option Addr) (c8 : Nat), w8.ownsRow w6.heap.size 42 5 (.slice a8 (n + (xs.length - (n + 1))) c8) (n + (xs.length - (n + 1))) ([] ++ (List.zipWith ruleCells (xs.take n) va).flatten ++ (List.zipWith ruleCells (xs.drop (n + 1)) vb).flatten) → Kept (fun _ => False) w6 w8 →
                Calls Try.prog 11 #[.slice a5 ys.length cap5, .slice a8 (n + (xs.length - (n + 1))) c8] w8 fun e w' => e = .returned (.bool true) ∧ Kept (fun _ => False) w6 w' ∧ w'.cell? ⟨q, 0, none⟩ = some (.int .i64 0)) := Lib.hid fun w8 a8 c8 ho8 hk8 => (sameRules_any _ _ _ _ (rules_firm.kept HN6.out hk8) (HFIN.out _ _ _ ho8 hk8)).mono fun e w' ⟨h1, h2⟩ => ⟨h1, hk8.trans (h2.kept _), (hk8.trans (h2.kept _)).cell id s6⟩
            have hzr := zipRows (xs := xs.take n) (vs := va) ruleCells_len
            have hzs := zipRows (xs := xs.drop (n + 1)) (vs := vb) ruleCells_len
            have HZ1 := Lib.hid hzr
            have HZ2 := Lib.hid hzs
            clear hb5 hn5 hq4 hva1 hva2 hva3 hvb1 hvb2 hvb3 hA6 k56 hzr hzs
            have i1 : (0 : Int) ≤ (n : Int) := by omega
            have i2 : (n : Int) ≤ (cap2 : Int) := by omega
            have i3 : (0 : Int) ≤ (n : Int) + 1 := by omega
            have i4 : (n : Int) + 1 ≤ (xs.length : Int) := by omega
            have i5 : IntKind.i64.wrap ((n : Int) + 1) = (n : Int) + 1 := IntWalk.i64_in _ (by omega)
            have i6 : ((n : Int) + 1).toNat = n + 1 := by omega
            by_cases hcc : cap2 = n + 1
            · have HR3' := Lib.hid (HR3.out hcc)
              have hct : (cap2 = n + 1) = True := by rw [hcc]; exact eq_self _
              clear hcc
              go_upto_region 12 with fail
              rw [HW6.out]
              go_region_held3 (fun w' => w'.cell? ⟨q, 0, none⟩ = some (.int .i64 0)) (first | go_keep | exact hk8.cell id s6 | exact hk7.cell id s6 | exact hs9)
                (first
                  | (refine arm_rules (w6 := w6) hi0 hz0 rfl hz1 hz2 (by rfl) (.tmp 62) (.tmp 65) rfl _ _ _ _ 0 n n (Nat.zero_add n) _ _ rfl rfl (owns_empty_rule (by first | exact newIn _ _ | assumption) (by first | exact Nat.le_refl _ | (simp; done))) (by first | exact (Kept.refl _ w6).drew.alloc _ | exact (Kept.refl _ w6).alloc _) HR1.out HZ1.out HO1.out (by omega) hn60 ?_; intro a7 c7 w7 ho7 hk7)
                  | (refine arm_rules (w6 := w6) hi0 hz0 rfl hz1 hz2 (by rfl) (.tmp 66) (.tmp 70) rfl _ _ _ _ n (xs.length - (n + 1)) (n + (xs.length - (n + 1))) rfl _ _ rfl rfl ho7 hk7 HR3'.out HZ2.out HO2.out (by omega) hm60 ?_; intro a8 c8 w8 ho8 hk8)
                  | (go_at_call 11; refine (HSR.out _ _ _ ho8 hk8).mono ?_; rintro e w9 ⟨rfl, hk9, hs9⟩))
              go_wp2_with fail
              go_ret
              exact ⟨rfl, ((((Kept.of_below (S := fun _ => False) HB.out).trans K5.out).trans' K56.out (fun i hi (h : i = q) => by omega)).trans hk9).below⟩
            · go_upto_region 12 with fail
              rw [HW6.out]
              go_region_held3 (fun w' => w'.cell? ⟨q, 0, none⟩ = some (.int .i64 0)) (first | go_keep | exact hk8.cell id s6 | exact hk7.cell id s6 | exact hs9)
                (first
                  | (refine arm_rules (w6 := w6) hi0 hz0 rfl hz1 hz2 (by rfl) (.tmp 62) (.tmp 65) rfl _ _ _ _ 0 n n (Nat.zero_add n) _ _ rfl rfl (owns_empty_rule (by first | exact newIn _ _ | assumption) (by first | exact Nat.le_refl _ | (simp; done))) (by first | exact (Kept.refl _ w6).drew.alloc _ | exact (Kept.refl _ w6).alloc _) HR1.out HZ1.out HO1.out (by omega) hn60 ?_; intro a7 c7 w7 ho7 hk7)
                  | (refine arm_rules (w6 := w6) hi0 hz0 rfl hz1 hz2 (by rfl) (.tmp 66) (.tmp 70) rfl _ _ _ _ n (xs.length - (n + 1)) (n + (xs.length - (n + 1))) rfl _ _ rfl rfl ho7 hk7 HR2.out HZ2.out HO2.out (by omega) hm60 ?_; intro a8 c8 w8 ho8 hk8)
                  | (go_at_call 11; refine (HSR.out _ _ _ ho8 hk8).mono ?_; rintro e w9 ⟨rfl, hk9, hs9⟩))
              go_wp2_with fail
              go_ret
              exact ⟨rfl, ((((Kept.of_below (S := fun _ => False) HB.out).trans K5.out).trans' K56.out (fun i hi (h : i = q) => by omega)).trans hk9).below⟩
end Go.Proofs.Ytplbdlgmjehckab
