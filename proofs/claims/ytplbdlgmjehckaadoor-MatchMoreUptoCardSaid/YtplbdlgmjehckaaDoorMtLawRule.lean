/-
  inklaw3.MatchRule.
-/
import Derived.Test.YtplbdlgmjehckaaDoorMtAlive
import Derived.Test.YtplbdlgmjehckaaDoorMtLess
import Derived.Test.YtplbdlgmjehckaaDoorMtEq
import Derived.Test.YtplbdlgmjehckaaDoorMtLaws
import Derived.Test.YtplbdlgmjehckaaDoorApp
namespace Go.Proofs.YtplbdlgmjehckaaDoor
open Go.RowKit
set_option linter.unusedVariables false
set_option linter.unusedSimpArgs false

theorem sels_ones {w : World} {xs : List PSel} {vs : List Value} (h : ∀ (i : Nat) (x : PSel) (u : Value), xs[i]? = some x → vs[i]? = some u → PartsAt w u x) : ∀ c ∈ (List.zipWith selCells xs vs).flatten, c.oneCell' = true := by
  intro c hc
  obtain ⟨r, hr, hc⟩ := List.mem_flatten.1 hc
  obtain ⟨i, hi, rfl⟩ := List.mem_iff_getElem.1 hr
  simp only [List.length_zipWith] at hi
  rw [List.getElem_zipWith] at hc
  have hd := h i _ _ (List.getElem?_eq_getElem (by omega)) (List.getElem?_eq_getElem (by omega))
  obtain ⟨_, _, hu, _⟩ := NestAt.form hd
  rw [hu] at hc
  simp only [selCells, List.mem_cons, List.not_mem_nil, or_false] at hc
  rcases hc with rfl <;> rfl

theorem owns_still {S : Nat → Prop} {w w' : World} {base e size n : Nat} {v : Value} {xs : List Value} (h : w.ownsRow base e size v n xs) (hk : Kept S w w') (hS : ∀ k, v.ownBlock = some k → ¬ S k) : w'.ownsRow base e size v n xs := by
  refine ⟨h.1, ?_⟩
  rcases h.2 with hn | ⟨g, cap, cur, rfl, hb, hgg, rest⟩
  · exact .inl hn
  · exact .inr ⟨g, cap, cur, rfl, hb, hk.heap (hS g rfl) hgg, rest⟩
theorem best_low {ns : List PNode} {k : Int} {sels : List PSel} (h : FewTests sels) : (mBest ns k sels).1.low 1048576 := by
  have hb := best_is ns k sels
  cases ho : (mBest ns k sels).2 with
  | false => rw [hb.zero ho]; exact ⟨Nat.zero_le _, Nat.zero_le _, Nat.zero_le _⟩
  | true =>
    obtain ⟨s, hs, _, he⟩ := hb.one ho
    rw [← he]
    exact low_mono (weigh_low s) (h.2 s hs)
/-- the turned rule so far: its selectors D, in a row of the call's own behind 'base'; the best weight W lies in block c -/
structure RLp (w wx : World) (base c : Nat) (W : PWt) (lv : Value) (j : Nat) (D : List PSel) (vs : List Value) : Prop where
  kept : Kept (fun _ => False) w wx
  wt : WtAt wx c W
  back : wx.heap[c + 1]? = some (.cells #[.string ⟨#[]⟩, lv, .slice none 0 0, .int .i64 0, .int .i64 0] 57 (0, 0))
  own : wx.ownsRow base 40 1 lv j (List.zipWith selCells D vs).flatten
  len : vs.length = D.length
  size : D.length = j
  nest : ∀ (i : Nat) (x : PSel) (u : Value), D[i]? = some x → vs[i]? = some u → PartsAt w u x
  above : c + 1 < base
  new : w.heap.size ≤ c
  room : base ≤ wx.heap.size
theorem RLp.by {w wx wy : World} {base c : Nat} {W : PWt} {lv : Value} {j : Nat} {D : List PSel} {vs : List Value} (h : RLp w wx base c W lv j D vs) (hk : Kept (fun _ => False) wx wy) : RLp w wy base c W lv j D vs :=
  ⟨h.kept.trans hk, hk.heap id h.wt, hk.heap id h.back, owns_still h.own hk (fun _ _ h => h), h.len, h.size, h.nest, h.above, h.new, Nat.le_trans h.room hk.size⟩
theorem RLp.form {w wx : World} {base c : Nat} {W : PWt} {lv : Value} {j : Nat} {D : List PSel} {vs : List Value} (h : RLp w wx base c W lv j D vs) : ∃ a n, lv = .slice a j n := by
  rcases h.own.2 with ⟨h, hn⟩ | ⟨g, cap, cur, h, _⟩
  · exact ⟨none, 0, by rw [h, hn]⟩
  · exact ⟨_, cap, h⟩
/-- a selector more: what the append leaves, and the field's store -/
theorem RLp.push {w wx wy : World} {base c : Nat} {W : PWt} {a a' : Option Addr} {n n' j : Nat} {D : List PSel} {vs : List Value} (h : RLp w wx base c W (.slice a j n) j D vs) {s : PSel} {pv : Value} (hp : PartsAt w pv s) (o : Obj)
    (hk : Kept (fun k => (Value.slice a j n).ownBlock = some k) (wx.alloc o) wy) (hown : wy.ownsRow base 40 1 (.slice a' (j + 1) n') (j + 1) ((List.zipWith selCells D vs).flatten ++ [[pv]].flatten)) :
    RLp w (wy.setCell ⟨c + 1, 1, none⟩ (.slice a' (j + 1) n')) base c W (.slice a' (j + 1) n') (j + 1) (D ++ [s]) (vs ++ [pv]) := by
  have hab := h.above
  have hnw := h.new
  have hfar : ∀ q, q < base → ¬ (Value.slice a j n).ownBlock = some q := fun q hq hx => by have := (h.own.lt q hx).1; omega
  have hy0 : wy.heap[c]? = _ := hk.heap (hfar c (by omega)) (oldIn h.wt o)
  have hy1 : wy.heap[c + 1]? = _ := hk.heap (hfar (c + 1) (by omega)) (oldIn h.back o)
  have hkk : Kept (fun _ => False) w wy := (h.kept.alloc o).trans' hk (fun i hi hx => by have := (h.own.lt i hx).1; omega)
  refine ⟨hkk.setCell (p := ⟨c + 1, 1, none⟩) (.inr (by show w.heap.size ≤ c + 1; omega)) _, otherIn hy0 _ _ (by show c ≠ c + 1; omega), ?_, ?_, by simp [h.len], by simp [h.size], fun i x u hx hu => ?_, hab, hnw, ?_⟩
  · have := setIn hy1 1 (.slice a' (j + 1) n')
    simpa using this
  · have e : (List.zipWith selCells (D ++ [s]) (vs ++ [pv])).flatten = (List.zipWith selCells D vs).flatten ++ [[pv]].flatten := by
      rw [List.zipWith_append (by rw [h.len])]; simp [selCells]
    rw [e]
    exact owns_still (S := (· = c + 1)) hown ((Kept.refl (· = c + 1) wy).setCell (p := ⟨c + 1, 1, none⟩) (.inl rfl) _) (fun q hq hx => by have := (hown.lt q hq).1; omega)
  · by_cases hi : i < D.length
    · rw [List.getElem?_append_left hi] at hx
      rw [List.getElem?_append_left (by rw [h.len]; omega)] at hu
      exact h.nest i x u hx hu
    · rw [List.getElem?_append_right (by omega)] at hx
      rw [List.getElem?_append_right (by rw [h.len]; omega), h.len] at hu
      cases hd : i - D.length with
      | zero => rw [hd] at hx hu; cases hx; cases hu; exact hp
      | succ q => rw [hd] at hx; simp at hx
  · have h1 := h.room
    have h2 := hk.size
    have h3 : wx.heap.size ≤ (wx.alloc o).heap.size := by simp
    have h4 : (wy.setCell ⟨c + 1, 1, none⟩ (.slice a' (j + 1) n')).heap.size = wy.heap.size := by simp
    omega

set_option maxRecDepth 100000 in
set_option maxHeartbeats 3200000 in
theorem matchRule_any (ns : List PNode) (hns : MtCtx ns) (r : PRule) (u : Value) (m : Int) (w : World) (v : Value) (k : Int) (hv : NodesAt w v ns) (hr : RuleAt w u r) (hf : FewTests r.sels) (hk : -9223372036854775808 ≤ k ∧ k ≤ 9223372036854775807) (hm : w.cell? ⟨0, 0, none⟩ = some (.int .i64 m)) :
    Calls Tryd.prog 9 #[v, .int .i64 k, ruleVal r u] w fun e w' => e = .returned (.bool true) ∧ Below w.heap.size w w' := by
  obtain ⟨na, ncap, rfl, hnc1, hnc2⟩ := hv.form
  obtain ⟨sv, dv, rfl, hs, hd⟩ := hr
  obtain ⟨sa, scap, rfl, hsc1, hsc2⟩ := NestAt.form hs
  obtain ⟨da, dcap, rfl, hdc1, hdc2⟩ := DeclsAt.form hd
  unfold maxLen at hsc2 hdc2 hnc2
  have hfew := hf.1
  have hfewn := hns.few
  have HV := Lib.hid hv
  have HSL := Lib.hid hs
  have HDL := Lib.hid hd
  have HF := Lib.hid hf
  have HM := Lib.hid hm
  have HK := Lib.hid hk
  have HNS := Lib.hid hns
  clear hv hs hd hf hm hns
  show Calls Tryd.prog 9 #[.slice na ns.length ncap, .int .i64 k, .agg #[.string (str r.media), .slice sa r.sels.length scap, .slice da r.decls.length dcap, .int .i64 r.lo, .int .i64 r.hi]] w _
  obtain ⟨wb, HWB⟩ : ∃ y, Hid (w.alloc (.cells #[.string (str r.media), .slice sa r.sels.length scap, .slice da r.decls.length dcap, .int .i64 r.lo, .int .i64 r.hi] 57 (0, 0)) = y) := ⟨_, rfl⟩
  have kb : Kept (fun _ => False) w wb := by rw [← HWB.out]; exact (Kept.refl _ w).alloc _
  have hb : wb.heap[w.heap.size]? = some (.cells #[.string (str r.media), .slice sa r.sels.length scap, .slice da r.decls.length dcap, .int .i64 r.lo, .int .i64 r.hi] 57 (0, 0)) := by rw [← HWB.out]; exact newIn w _
  have KB := Lib.hid kb
  have HB := Lib.hid hb
  replace HV := Lib.hid (nodes_firm.kept HV.out kb)
  replace HSL := Lib.hid (sels_firm.kept HSL.out kb)
  replace HDL := Lib.hid (decls_firm.kept HDL.out kb)
  replace HM := Lib.hid (kb.cell id HM.out)
  clear kb hb
  obtain ⟨i0, hi0, hz0, hz1, hz2⟩ := info_parts info_rule
  obtain ⟨j0, hj0, hy0, hy1, hy2⟩ := info_parts info_weight
  obtain ⟨k0, hk0, hx0, hx1, hx2⟩ := info_parts info_sel
  go_enter Tryd.func9, Tryd.ntmps9
  go_upto_region 1 with fail
  rw [HWB.out]
  go_wp2_with fail
  refine (alive3_any wb m HM.out).mono ?_
  rintro e w1 ⟨rfl, hk1⟩
  have K1 := Lib.hid hk1
  have HB1 := Lib.hid (hk1.heap id HB.out)
  clear hk1
  have b0 : w1.cell? ⟨w.heap.size, 0, none⟩ = some (.string (str r.media)) := cellIn HB1.out 0 rfl
  have b1 : w1.cell? ⟨w.heap.size, 1, none⟩ = some (.slice sa r.sels.length scap) := cellIn HB1.out 1 rfl
  have b2 : w1.cell? ⟨w.heap.size, 2, none⟩ = some (.slice da r.decls.length dcap) := cellIn HB1.out 2 rfl
  have b3 : w1.cell? ⟨w.heap.size, 3, none⟩ = some (.int .i64 r.lo) := cellIn HB1.out 3 rfl
  have b4 : w1.cell? ⟨w.heap.size, 4, none⟩ = some (.int .i64 r.hi) := cellIn HB1.out 4 rfl
  obtain ⟨⟨⟨xa, xb, xc⟩, ok⟩, HBS⟩ : ∃ x, Hid (mBest ns k r.sels = x) := ⟨_, rfl⟩
  have HC := best_any ns HNS.out r (.tuple #[.slice sa r.sels.length scap, .slice da r.decls.length dcap]) m w1 _ k (nodes_firm.kept HV.out K1.out) ⟨_, _, rfl, sels_firm.kept HSL.out K1.out, decls_firm.kept HDL.out K1.out⟩ HF.out HK.out (K1.out.cell id HM.out)
  rw [HBS.out] at HC
  have HC : Hid (Calls Tryd.prog 25 #[.slice na ns.length ncap, .int .i64 k, .agg #[.string (str r.media), .slice sa r.sels.length scap, .slice da r.decls.length dcap, .int .i64 r.lo, .int .i64 r.hi]] w1 fun e w' => e = .returned (.tuple #[.agg #[.int .i64 (xa : Int), .int .i64 (xb : Int), .int .i64 (xc : Int)], .bool ok]) ∧ Kept (fun _ => False) w1 w') := Lib.hid HC
  go_upto_region 6 with (go_at_call 25; refine HC.out.mono ?_; rintro e w2 ⟨rfl, hk2⟩)
  obtain ⟨wa, HWA⟩ : ∃ y, Hid ((w2.alloc (.cells #[.int .i64 (xa : Int), .int .i64 (xb : Int), .int .i64 (xc : Int)] 47 (0, 0))).alloc (.cells #[.string ⟨#[]⟩, .slice none 0 0, .slice none 0 0, .int .i64 0, .int .i64 0] 57 (0, 0)) = y) := ⟨_, rfl⟩
  have hka : Kept (fun _ => False) w2 wa := by rw [← HWA.out]; exact ((Kept.refl _ w2).alloc _).alloc _
  have hwt : WtAt wa w2.heap.size ⟨xa, xb, xc⟩ := by rw [← HWA.out]; exact oldIn (newIn w2 _) _
  have hbk : wa.heap[w2.heap.size + 1]? = some (.cells #[.string ⟨#[]⟩, .slice none 0 0, .slice none 0 0, .int .i64 0, .int .i64 0] 57 (0, 0)) := by
    rw [← HWA.out]
    have := newIn (w2.alloc (.cells #[.int .i64 (xa : Int), .int .i64 (xb : Int), .int .i64 (xc : Int)] 47 (0, 0))) (.cells #[.string ⟨#[]⟩, .slice none 0 0, .slice none 0 0, .int .i64 0, .int .i64 0] 57 (0, 0))
    simpa using this
  have hsz : wa.heap.size = w2.heap.size + 2 := by rw [← HWA.out]; simp
  have hw2 : wb.heap.size ≤ w2.heap.size := by have := K1.out.size; have := hk2.size; omega
  have hR0 : RLp wb wa wa.heap.size w2.heap.size ⟨xa, xb, xc⟩ (.slice none 0 0) 0 [] [] :=
    ⟨(K1.out.trans hk2).trans hka, hwt, hbk, World.ownsRow_nil _ _ _ _, rfl, rfl, by simp, by omega, hw2, Nat.le_refl _⟩
  have HR0 := Lib.hid hR0
  have HB2 := Lib.hid ((hk2.trans hka).heap id HB1.out)
  obtain ⟨base, HBASE⟩ : ∃ x, Hid (wa.heap.size = x) := ⟨_, rfl⟩
  obtain ⟨c, HCC⟩ : ∃ x, Hid (w2.heap.size = x) := ⟨_, rfl⟩
  rw [HBASE.out, HCC.out] at HR0
  have a1 : wa.cell? ⟨w.heap.size, 1, none⟩ = some (.slice sa r.sels.length scap) := cellIn HB2.out 1 rfl
  rw [HWA.out, HCC.out]
  clear hka hwt hbk hsz hw2 hR0 hk2 b0 b1 b2 b3 b4
  have HLW : Hid (PWt.low ⟨xa, xb, xc⟩ 1048576) := Lib.hid (by have := best_low (ns := ns) (k := k) HF.out; rw [HBS.out] at this; exact this)
  have HIS : Hid (IsBest ns k r.sels (⟨xa, xb, xc⟩, ok)) := Lib.hid (by have := best_is ns k r.sels; rw [HBS.out] at this; exact this)
  go_wp2_with fail
  go_loopw [9, 10, 12] (fun f g i wx => ∃ (j : Nat) (lv : Value) (D : List PSel) (vs : List Value), j ≤ List.length r.sels ∧ i = .int .i64 ((List.length r.sels : Int) - 1 - j) ∧ f = .bool (D.any fun s => mMatches ns k s) ∧ g = .bool (D.any fun s => mMatches ns k s && decide (mWeigh s = ⟨xa, xb, xc⟩)) ∧
    Hid (RLp wb wx base c ⟨xa, xb, xc⟩ lv j D vs) ∧ Hid (r.sels.reverse.take j = D)) (fun _ _ i _ => (intOf i + 1).toNat)
  case atStart => exact ⟨0, _, [], [], by omega, by simp, rfl, rfl, HR0, Lib.hid rfl⟩
  case round =>
    obtain ⟨j, lv, D, vs, hj, rfl, rfl, rfl, HL, HD⟩ := hrel
    obtain ⟨wx, hwx⟩ : ∃ x, x = wr := ⟨_, rfl⟩
    subst hwx
    obtain ⟨la, lc, rfl⟩ := HL.out.form
    by_cases hlt : j < List.length r.sels
    · obtain ⟨n, hn⟩ : ∃ n : Nat, (List.length r.sels : Int) - 1 - j = n := ⟨List.length r.sels - 1 - j, by omega⟩
      have hnl : n < List.length r.sels := by omega
      have hx := List.getElem?_eq_getElem hnl
      generalize hgx : r.sels[n] = s at hx
      clear hgx
      obtain ⟨pb, po, pv, rfl, hpc, hpt⟩ := NestAt.at HSL.out hx
      have p0 : wx.cell? ⟨pb, po + n, none⟩ = some pv := HL.out.kept.cell id (by have := hpc 0 _ rfl; simpa using this)
      obtain ⟨pa, pc, rfl, hpc1, hpc2⟩ := NestAt.form hpt
      unfold maxLen at hpc2
      have hms := List.mem_of_getElem? hx
      have hnx : Hid (r.sels.reverse.take (j + 1) = D ++ [s]) := Lib.hid (by
        rw [List.take_add_one, HD.out, List.getElem?_reverse hlt, show List.length r.sels - 1 - j = n by omega, hx]; rfl)
      obtain ⟨hit, HIT⟩ : ∃ b, Hid (mMatches ns k s = b) := ⟨_, rfl⟩
      -- the append
      obtain ⟨wd, HWD⟩ : ∃ y, Hid (wx.alloc (.cells #[.slice pa (List.length s) pc] 40 (0, 0)) = y) := ⟨_, rfl⟩
      have hod : wd.ownsRow base 40 1 (.slice la j lc) j (List.zipWith selCells D vs).flatten := by rw [← HWD.out]; exact HL.out.own.alloc _
      have hrw : RowsAt wd 1 (.slice (some ⟨wx.heap.size, 0, none⟩) 1 1) [[.slice pa (List.length s) pc]] := by rw [← HWD.out]; exact rows_new (newIn wx _) rfl (by simp) rfl (by simp [maxLen])
      have hbl : base ≤ wd.heap.size := by have h1 := HL.out.room; rw [← HWD.out]; simp; omega
      obtain ⟨a5, c5, w5, hr5, ho5, k5, hl5⟩ := append_any (P := Tryd.prog) wd 53 53 base 40 k0 _ 1 24 Tryd.underlying53 hk0 hx0 hx1 hx2 rfl (by omega) la j lc _ hod _ 1 1 _ hrw (by simp) (by simp [Value.oneCell']) (by unfold maxLen; omega) (by omega) hbl
      have hq := RLp.push HL.out hpt (.cells #[.slice pa (List.length s) pc] 40 (0, 0)) (by rw [HWD.out]; exact k5) ho5
      have hy1 : w5.heap[c + 1]? = _ := k5.heap (fun hx => by have := (HL.out.own.lt (c + 1) hx).1; have := HL.out.above; omega) (by rw [← HWD.out]; exact oldIn HL.out.back _)
      have f1 := freeIn hy1 1
      have y1 : w5.cell? ⟨c + 1, 1, none⟩ = some (.slice la j lc) := cellIn hy1 1 rfl
      have x1 : wx.cell? ⟨c + 1, 1, none⟩ = some (.slice la j lc) := cellIn HL.out.back 1 rfl
      have a2 : wx.cell? ⟨w.heap.size, 1, none⟩ = some (.slice (some ⟨pb, po, none⟩) (List.length r.sels) scap) := HL.out.kept.cell id (cellIn HB.out 1 rfl)
      obtain ⟨w6, HW6⟩ : ∃ y, Hid (w5.setCell ⟨c + 1, 1, none⟩ (.slice a5 (j + 1) c5) = y) := ⟨_, rfl⟩
      rw [HW6.out] at hq
      have HQ := Lib.hid hq
      rw [← HWD.out] at hr5
      have HR5 := Lib.hid hr5
      clear hq hr5 k5 ho5 hl5 hod hrw hbl hy1 hx
      rw [hn]
      go_upto_region 11 with (at_builtin; refine wpList_append_eq (by rfl) _ _ _ rfl _ _ _ rfl rfl _ HR5.out ?_)
      rw [HW6.out]
      have HMT := matches_any ns HNS.out s m w6 _ _ k (nodes_firm.kept HV.out HQ.out.kept) (parts_firm.kept hpt HQ.out.kept) HK.out (HQ.out.kept.cell id HM.out)
      rw [HIT.out] at HMT
      have HMT := Lib.hid HMT
      have HPT := Lib.hid hpt
      clear hpt p0 a2 x1 y1 f1 hpc
      cases hit with
      | false =>
        have e1 : (D ++ [s]).any (fun s => mMatches ns k s) = D.any (fun s => mMatches ns k s) := by simp [HIT.out]
        have e2 : (D ++ [s]).any (fun s => mMatches ns k s && decide (mWeigh s = ⟨xa, xb, xc⟩)) = D.any (fun s => mMatches ns k s && decide (mWeigh s = ⟨xa, xb, xc⟩)) := by simp [HIT.out]
        have HE1 := Lib.hid e1
        have HE2 := Lib.hid e2
        clear e1 e2
        go_wp2_with (go_at_call 21; refine HMT.out.mono ?_; rintro e w7 ⟨rfl, hk7⟩)
        go_roundw
        case measure => simp [intOf] <;> omega
        case rel => exact ⟨j + 1, _, _, _, by omega, by congr 1; omega, by rw [HE1.out], by rw [HE2.out], Lib.hid (HQ.out.by hk7), hnx⟩
      | true =>
        obtain ⟨⟨ya, yb, yc⟩, HWY⟩ : ∃ x, Hid (mWeigh s = x) := ⟨_, rfl⟩
        have hns := HF.out.2 s hms
        have HYL : Hid (PWt.low ⟨ya, yb, yc⟩ 1048576) := Lib.hid (low_mono (by rw [← HWY.out]; exact weigh_low s) hns)
        have hlt2 := HIS.out.most s hms HIT.out
        rw [HWY.out] at hlt2
        have HLS := Lib.hid hlt2
        have e1 : (D ++ [s]).any (fun s => mMatches ns k s) = true := by simp [HIT.out]
        have HE1 := Lib.hid e1
        obtain ⟨mo, HMO⟩ : ∃ b, Hid ((D.any fun s => mMatches ns k s && decide (mWeigh s = ⟨xa, xb, xc⟩)) = b) := ⟨_, rfl⟩
        have e2 : (D ++ [s]).any (fun s => mMatches ns k s && decide (mWeigh s = ⟨xa, xb, xc⟩)) = (mo || decide ((⟨ya, yb, yc⟩ : PWt) = ⟨xa, xb, xc⟩)) := by
          rw [List.any_append, HMO.out]; simp [HIT.out, HWY.out]
        have HE2 := Lib.hid e2
        clear e1 e2 hlt2
        rw [HMO.out]
        go_upto_region 13 with (go_at_call 21; refine HMT.out.mono ?_; rintro e w7 ⟨rfl, hk7⟩)
        have HQ7 := Lib.hid (HQ.out.by hk7)
        have HW := weigh_any s w7 _ (parts_firm.kept HPT.out HQ7.out.kept) hns
        rw [HWY.out] at HW
        unfold wtVal at HW
        simp only at HW
        have HW := Lib.hid HW
        clear hk7
        go_upto_region 14 with (go_at_call 20; refine HW.out.mono ?_; rintro e w8 ⟨rfl, hk8⟩)
        have HQ8 := Lib.hid (HQ7.out.by hk8)
        obtain ⟨w9, HW9⟩ : ∃ x, Hid (w8.alloc (.cells #[.int .i64 (ya : Int), .int .i64 (yb : Int), .int .i64 (yc : Int)] 47 (0, 0)) = x) := ⟨_, rfl⟩
        have hyw : WtAt w9 w8.heap.size ⟨ya, yb, yc⟩ := by rw [← HW9.out]; exact newIn w8 _
        have hk9 : Kept (fun _ => False) w8 w9 := by rw [← HW9.out]; exact (Kept.refl _ w8).alloc _
        have HQ9 := Lib.hid (HQ8.out.by hk9)
        obtain ⟨y1, y2, y3⟩ := hyw.ints
        obtain ⟨x1, x2, x3⟩ := HQ9.out.wt.ints
        simp only at x1 x2 x3 y1 y2 y3
        have he : (Op.equalIn 10000 47 (.agg #[.int .i64 (ya : Int), .int .i64 (yb : Int), .int .i64 (yc : Int)]) (.agg #[.int .i64 (xa : Int), .int .i64 (xb : Int), .int .i64 (xc : Int)])).run Tryd.prog w9 = .ok (decide ((⟨ya, yb, yc⟩ : PWt) = ⟨xa, xb, xc⟩)) w9 := eq_weight ⟨ya, yb, yc⟩ ⟨xa, xb, xc⟩ w9
        obtain ⟨eq, HEQ⟩ : ∃ b, Hid (decide ((⟨ya, yb, yc⟩ : PWt) = ⟨xa, xb, xc⟩) = b) := ⟨_, rfl⟩
        rw [HEQ.out] at he HE2
        have HLC := less_any w9 ⟨xa, xb, xc⟩ ⟨ya, yb, yc⟩ HLW.out HYL.out
        rw [HLS.out] at HLC
        simp only at HLC
        have HLC := Lib.hid HLC
        clear hk8 hk9 hyw
        rw [HW9.out]
        cases mo with
        | true =>
          go_wp2_with (go_at_call 27; refine HLC.out.mono ?_; rintro e w10 ⟨rfl, hk10⟩)
          go_roundw
          case measure => simp [intOf] <;> omega
          case rel => exact ⟨j + 1, _, _, _, by omega, by congr 1; omega, by rw [HE1.out], by rw [HE2.out]; rfl, Lib.hid (HQ9.out.by hk10), hnx⟩
        | false =>
          go_wp2_with (go_at_call 27; refine HLC.out.mono ?_; rintro e w10 ⟨rfl, hk10⟩)
          go_roundw
          case measure => simp [intOf] <;> omega
          case rel => exact ⟨j + 1, _, _, _, by omega, by congr 1; omega, by rw [HE1.out], by rw [HE2.out]; rfl, Lib.hid (HQ9.out.by hk10), hnx⟩
    · obtain rfl : j = List.length r.sels := by omega
      have hn : (List.length r.sels : Int) - 1 - (List.length r.sels : Nat) = -1 := by omega
      have hDr : D = r.sels.reverse := by rw [← HD.out, List.take_of_length_le (by simp)]
      rw [hn]
      subst hDr
      have hso : (r.sels.reverse.any fun s => mMatches ns k s) = ok := by
        rw [Bool.eq_iff_iff]
        have := HIS.out.some_
        simp only at this
        rw [this]
        simp
      rw [hso]
      clear hso
      have k0' := cellIn HL.out.back 0 rfl
      have k1' := cellIn HL.out.back 1 rfl
      have k2' := cellIn HL.out.back 2 rfl
      have k3' := cellIn HL.out.back 3 rfl
      have k4' := cellIn HL.out.back 4 rfl
      have HSB : SelsAt wx (.slice la (List.length r.sels) lc) r.sels.reverse := ⟨vs, HL.out.len, rowsAt_of_owns (n := List.length r.sels) (zipRows selCells_len) (by simp [HL.out.len]) HL.out.own, fun i x u hx hu => parts_firm.kept (HL.out.nest i x u hx hu) HL.out.kept⟩
      have HC2 := best_any ns HNS.out ⟨[], r.sels.reverse, [], 0, 0⟩ (.tuple #[.slice la (List.length r.sels) lc, .slice none 0 0]) m wx _ k (nodes_firm.kept HV.out HL.out.kept) ⟨_, _, rfl, HSB, RowsAt.nil _ _⟩ ⟨by simp; exact HF.out.1, fun s hs => HF.out.2 s (by simpa using hs)⟩ HK.out (HL.out.kept.cell id HM.out)
      rw [show mBest ns k r.sels.reverse = (⟨xa, xb, xc⟩, ok) by rw [best_reverse]; exact HBS.out] at HC2
      have HC2 : Hid (Calls Tryd.prog 25 #[.slice na ns.length ncap, .int .i64 k, .agg #[.string ⟨#[]⟩, .slice la (List.length r.sels) lc, .slice none 0 0, .int .i64 0, .int .i64 0]] wx fun e w' => e = .returned (.tuple #[.agg #[.int .i64 (xa : Int), .int .i64 (xb : Int), .int .i64 (xc : Int)], .bool ok]) ∧ Kept (fun _ => False) wx w') := Lib.hid HC2
      clear HSB
      go_upto_region 18 with (go_at_call 25; refine HC2.out.mono ?_; rintro e w3 ⟨rfl, hk3⟩)
      obtain ⟨mo, HMO⟩ : ∃ b, Hid ((r.sels.any fun s => mMatches ns k s && decide (mWeigh s = ⟨xa, xb, xc⟩)) = b) := ⟨_, rfl⟩
      have hmo : ok = true → mo = true := by
        intro ho
        obtain ⟨s, h1, h2, h3⟩ := HIS.out.one ho
        rw [← HMO.out, List.any_eq_true]
        exact ⟨s, h1, by simp only at h3; simp [h2, h3]⟩
      rw [HMO.out]
      obtain ⟨w4, HW4⟩ : ∃ x, Hid (w3.alloc (.cells #[.int .i64 (xa : Int), .int .i64 (xb : Int), .int .i64 (xc : Int)] 47 (0, 0)) = x) := ⟨_, rfl⟩
      have hyw : WtAt w4 w3.heap.size ⟨xa, xb, xc⟩ := by rw [← HW4.out]; exact newIn w3 _
      have hk4 : Kept (fun _ => False) w3 w4 := by rw [← HW4.out]; exact (Kept.refl _ w3).alloc _
      have HQ4 := Lib.hid (HL.out.by (hk3.trans hk4))
      obtain ⟨y1, y2, y3⟩ := hyw.ints
      obtain ⟨x1, x2, x3⟩ := HQ4.out.wt.ints
      simp only at x1 x2 x3 y1 y2 y3
      have he : (Op.equalIn 10000 47 (.agg #[.int .i64 (xa : Int), .int .i64 (xb : Int), .int .i64 (xc : Int)]) (.agg #[.int .i64 (xa : Int), .int .i64 (xb : Int), .int .i64 (xc : Int)])).run Tryd.prog w4 = .ok true w4 := by
        have := eq_weight ⟨xa, xb, xc⟩ ⟨xa, xb, xc⟩ w4
        simpa using this
      rw [HW4.out]
      clear k0' k1' k2' k3' k4' hk3 hk4 hyw
      cases ok with
      | true =>
        obtain rfl := hmo rfl
        go_wp2_with fail
        go_ret
        exact ⟨rfl, (KB.out.trans HQ4.out.kept).below⟩
      | false =>
        clear hmo
        cases mo with
        | true =>
          go_wp2_with fail
          go_ret
          exact ⟨rfl, (KB.out.trans HQ4.out.kept).below⟩
        | false =>
          go_wp2_with fail
          go_ret
          exact ⟨rfl, (KB.out.trans HQ4.out.kept).below⟩
end Go.Proofs.YtplbdlgmjehckaaDoor
