/-
  Lemmas for the claims of this seat: the program's functions walked, and plain laws. In this order: FoReadW.
-/
import Derived.Test.YtplbdlgmjehckadGreatDoorPk13
import Derived.Test.YtplbdlgmjehckadGreatDoorPk7
import Derived.Test.YtplbdlgmjehckadGreatDoorPk22
import Derived.Test.YtplbdlgmjehckadGreatDoorPk16
import Derived.Deep.RegionHeld3
import Derived.Deep.Onto
namespace Go.Proofs.YtplbdlgmjehckadGreatDoor
open Go.RowKit
set_option linter.unusedVariables false
set_option linter.unusedSimpArgs false
def rdBad (f : Flt) : Value := .tuple #[.slice none 0 0, .slice none 0 0, .agg #[.int .i64 (f.err : Int), .int .i64 (f.pos : Int)]]
def ReadEnds (w : World) (r : Ans (List PNode × List PRule)) (e : Ending) (w' : World) : Prop :=
  match r with
  | .bad f => e = .returned (rdBad f) ∧ Kept (fun _ => False) w w'
  | .ok x => ∃ lv rv, e = .returned (.tuple #[lv, rv, .agg #[.int .i64 0, .int .i64 0]]) ∧ Kept (fun _ => False) w w' ∧ NodesAt w' lv x.1 ∧ RulesAt w' rv x.2
theorem rows_fault {w w' : World} {fb size : Nat} {v x y : Value} {t : TypeId} {fz : Nat × Nat} {rows : List (List Value)} (hx : ∀ s, x ≠ .string s) (hy : ∀ s, y ≠ .string s) (hf : w.heap[fb]? = some (.cells #[x, y] t fz)) (hk : Kept (· = fb) w w')
    (hr : ∀ r ∈ rows, ∃ s, r[0]? = some (Value.string s)) (h : RowsAt w size v rows) : RowsAt w' size v rows := by
  obtain ⟨a, cap, rfl, h1, h2, h3⟩ := h
  refine ⟨a, cap, rfl, h1, h2, fun hne => ?_⟩
  obtain ⟨b, off, rfl, h4⟩ := h3 hne
  have hb : b ≠ fb := by
    rintro rfl
    cases rows with
    | nil => exact hne rfl
    | cons r0 rows =>
      obtain ⟨s, hs⟩ := hr r0 (by simp)
      have := h4 0 r0 rfl 0 _ hs
      rw [cell_of_row w b _ _ _ _ hf] at this
      match h : off + 0 * size + 0, this with
      | 0, this => simp at this; exact hx s this
      | 1, this => simp at this; exact hy s this
      | n + 2, this => simp at this
  exact ⟨b, off, rfl, fun i r hir j c hc => hk.cell hb (h4 i r hir j c hc)⟩
theorem nodes_fault {w w' : World} {fb : Nat} {v : Value} {x y : Int} {t : TypeId} {fz : Nat × Nat} {ns : List PNode} (hf : w.heap[fb]? = some (.cells #[.int .i64 x, .int .i64 y] t fz)) (hk : Kept (· = fb) w w') (h : NodesAt w v ns) : NodesAt w' v ns := by
  obtain ⟨avs, h1, h2, h3⟩ := h
  refine ⟨avs, h1, rows_fault (fun s => by simp) (fun s => by simp) hf hk (fun r hr => ?_) h2, fun i n av hn ha => rows_fault (fun s => by simp) (fun s => by simp) hf hk (fun r hr => ?_) (h3 i n av hn ha)⟩
  · obtain ⟨i, hi, rfl⟩ := List.mem_iff_getElem.1 hr
    rw [List.getElem_zipWith]
    exact ⟨_, rfl⟩
  · obtain ⟨a, _, rfl⟩ := List.mem_map.1 hr
    exact ⟨_, rfl⟩
theorem RulesOwn.still {w w' : World} {base : Nat} {v : Value} {rs : List PRule} {vs : List Value} (h : RulesOwn w base v rs vs) (hk : Kept (fun _ => False) w w') : RulesOwn w' base v rs vs :=
  NestOwn.other (S := fun _ => False) (w' := w') h (fun u x _ hq => rule_lasts _ _ _ _ _ _ _ hq hk (fun _ _ h => h.elim) (fun _ _ h => h)) hk (fun _ _ => id)
theorem rd_put {w wx : World} (hk : Kept (fun _ => False) (w.alloc (.cells #[.int .i64 0, .int .i64 0] 26 (0, 0))) wx) (x y : Value) :
    (((wx.setCell ⟨w.heap.size, 0, none⟩ x).setCell ⟨w.heap.size, 1, none⟩ y).cell? ⟨w.heap.size, 0, none⟩ = some x ∧ ((wx.setCell ⟨w.heap.size, 0, none⟩ x).setCell ⟨w.heap.size, 1, none⟩ y).cell? ⟨w.heap.size, 1, none⟩ = some y ∧
      Kept (fun _ => False) w ((wx.setCell ⟨w.heap.size, 0, none⟩ x).setCell ⟨w.heap.size, 1, none⟩ y)) ∧
    (wx.cell? ⟨w.heap.size, 0, none⟩ = some (.int .i64 0) ∧ wx.cell? ⟨w.heap.size, 1, none⟩ = some (.int .i64 0) ∧ wx.frozen? ⟨w.heap.size, 0, none⟩ = false ∧ wx.frozen? ⟨w.heap.size, 1, none⟩ = false) := by
  have h0 := hk.heap id (newIn w (.cells #[.int .i64 0, .int .i64 0] 26 (0, 0)))
  have h1 := setIn (setIn h0 0 x) 1 y
  have hk0 : Kept (fun _ => False) w wx := ((Kept.refl _ w).alloc _).trans hk
  exact ⟨⟨cellIn h1 0 rfl, cellIn h1 1 rfl, (hk0.setCell (.inr (Nat.le_refl _)) _).setCell (.inr (Nat.le_refl _)) _⟩, cellIn h0 0 rfl, cellIn h0 1 rfl, freeIn h0 0, freeIn h0 1⟩
set_option maxRecDepth 100000 in
set_option maxHeartbeats 6400000 in
theorem read_any (s : B) (m : Int) (w : World) (hm : w.cell? ⟨0, 0, none⟩ = some (.int .i64 m)) (hs : s.length ≤ 9223372036854775807) :
    Calls Tryz.prog 7 #[.string (str s)] w (ReadEnds w (fRead s)) := by
  obtain ⟨R, HR⟩ : ∃ R, Hid (fRead s = R) := ⟨_, rfl⟩
  rw [HR.out]
  have HM := Lib.hid hm
  obtain ⟨w0, HW0⟩ : ∃ x, Hid (w.alloc (.cells #[.int .i64 0, .int .i64 0] 26 (0, 0)) = x) := ⟨_, rfl⟩
  have HK0 : Hid (Kept (fun _ => False) w w0) := Lib.hid (by rw [← HW0.out]; exact (Kept.refl _ w).alloc _)
  have HPUT : Hid (∀ wx, Kept (fun _ => False) w0 wx → ∀ x y, _) := Lib.hid (fun wx hk x y => rd_put (by rw [HW0.out]; exact hk) x y)
  obtain ⟨P0, HP⟩ : ∃ P, Hid (pParse s = P) := ⟨_, rfl⟩
  have HCP := parse_any s w0 m (HK0.out.cell id hm) hs
  rw [HP.out] at HCP
  replace HCP := Lib.hid HCP
  clear hm
  go_enter Tryz.func7, Tryz.ntmps7
  go_upto_region 1 with fail
  rw [HW0.out]
  go_wp2_with fail
  refine HCP.out.mono ?_
  intro e w1 he1
  cases P0 with
  | bad f =>
    obtain ⟨rfl, hb1⟩ := he1
    have hr : Hid (R = .bad f) := Lib.hid (by rw [← HR.out, fRead_eq, HP.out]; rfl)
    have hne : ((f.err : Int) != 0) = true := by
      have := read_err (HR.out.trans hr.out); simp; omega
    obtain ⟨wb, HWB⟩ : ∃ x, Hid (w1.alloc (.cells #[.int .i64 (f.err : Int), .int .i64 (f.pos : Int)] 26 (0, 0)) = x) := ⟨_, rfl⟩
    have hkb : Kept (fun _ => False) w0 wb := by rw [← HWB.out]; exact (Kept.of_below hb1).alloc _
    have c0 : wb.cell? ⟨w1.heap.size, 0, none⟩ = some (.int .i64 (f.err : Int)) := by rw [← HWB.out]; exact cellIn (newIn w1 _) 0 rfl
    have c1 : wb.cell? ⟨w1.heap.size, 1, none⟩ = some (.int .i64 (f.pos : Int)) := by rw [← HWB.out]; exact cellIn (newIn w1 _) 1 rfl
    obtain ⟨d, g0, g1, f0, f1⟩ := HPUT.out wb hkb (.int .i64 (f.err : Int)) (.int .i64 (f.pos : Int))
    have HD := Lib.hid d
    go_upto_region 2 with fail
    rw [HWB.out]
    clear hb1 hkb d
    go_wp2_with fail
    go_region
    go_wp2_with fail
    obtain ⟨q0, q1, q2⟩ := HD.out
    revert q0 q1 q2
    generalize hwf : ((wb.setCell ⟨w.heap.size, 0, none⟩ (.int .i64 (f.err : Int))).setCell ⟨w.heap.size, 1, none⟩ (.int .i64 (f.pos : Int))) = wf
    intro q0 q1 q2
    have p0 : wf.drew.cell? ⟨w.heap.size, 0, none⟩ = some (.int .i64 (f.err : Int)) := q0
    have p1 : wf.drew.cell? ⟨w.heap.size, 1, none⟩ = some (.int .i64 (f.pos : Int)) := q1
    refine bodyPost_ret (v := .tuple #[.slice none 0 0, .slice none 0 0, .agg #[.int .i64 (f.err : Int), .int .i64 (f.pos : Int)]]) (by simp [results, Tryz.results7, go_sem, p0, p1]) rfl ?_
    rw [hr.out]
    exact ⟨rfl, q2.drew⟩
  | ok l =>
    obtain ⟨lv, rfl, hb1, hl1⟩ := he1
    have hlim := page_lim HP.out
    obtain ⟨hs6, hl6, hnode, hattr⟩ := hlim
    have HNODE := Lib.hid hnode
    have HATTR := Lib.hid hattr
    obtain ⟨la, lc, rfl, hlc1, hlc2⟩ := hl1.form
    unfold maxLen at hlc2
    have HE0 : Hid (((styleRules s l).then fun qs => rdRest l ([] ++ qs)) = R) := Lib.hid (by rw [← HR.out, fRead_eq, HP.out]; rfl)
    have HR0 := HR
    obtain ⟨wb, HWB⟩ : ∃ x, Hid (w1.alloc (.cells #[.int .i64 0, .int .i64 0] 26 (0, 0)) = x) := ⟨_, rfl⟩
    have hkb : Kept (fun _ => False) w0 wb := by rw [← HWB.out]; exact (Kept.of_below hb1).alloc _
    have HLV : Hid (NodesAt wb (.slice la l.length lc) l) := Lib.hid (by rw [← HWB.out]; exact hl1.kept ((Kept.refl (fun _ => False) w1).alloc _).below)
    have c0 : wb.cell? ⟨w1.heap.size, 0, none⟩ = some (.int .i64 0) := by rw [← HWB.out]; exact cellIn (newIn w1 _) 0 rfl
    have HKB := Lib.hid hkb
    clear hb1 hl1 hnode hattr hkb
    go_upto_region 2 with fail
    rw [HWB.out]
    go_wp2_with fail
    go_loopw [7, 33] (fun u c wr => ∃ (i : Nat) (rs : List PRule) (vs : List Value), i ≤ l.length ∧ rs.length ≤ 60 * i ∧ c = .int .i64 (i : Int) ∧ Hid (Kept (fun _ => False) wb wr) ∧ Hid (RulesOwn wr wb.heap.size u rs vs) ∧
      Hid (∀ r ∈ rs, RuleLim r ∧ 0 ≤ r.lo ∧ r.lo ≤ r.hi ∧ r.hi ≤ s.length) ∧ Hid (((styleRules s (l.drop i)).then fun qs => rdRest l (rs ++ qs)) = R)) (fun _ c _ => l.length - (intOf c).toNat)
    case atStart => exact ⟨0, [], [], by omega, by simp, rfl, Lib.hid (Kept.refl _ _), Lib.hid (NestOwn.nil _ _), Lib.hid (by simp), HE0⟩
    case round =>
      obtain ⟨i, rs, vs, hi, hrs, rfl, HK, HRO, HRL, HE⟩ := hrel
      obtain ⟨wr0, hwr0⟩ : ∃ x, x = wr := ⟨_, rfl⟩
      subst hwr0
      obtain ⟨ua, uc, rfl⟩ := owns_form HRO.out.own
      by_cases hlt : i < l.length
      · have hx := List.getElem?_eq_getElem hlt
        have hdr := List.drop_eq_getElem_cons hlt
        generalize hgx : l[i] = n at hx hdr
        clear hgx
        obtain ⟨nb, noff, av, rfl, g0, g1, g2, g3, g4, g5, hav⟩ := (nodes_firm.kept HLV.out HK.out).at hx
        have hnl := HNODE.out n (List.mem_of_getElem? hx)
        obtain ⟨p, q, hpf, hqf, hpq, hqs⟩ := hnl.inner
        have he := HE.out
        rw [hdr, style_step] at he
        rw [hpf] at g4
        rw [hqf] at g5
        rw [hpf, hqf, Int.toNat_natCast, Int.toNat_natCast] at he
        obtain ⟨aa, acap, rfl, _, _⟩ := hav.form
        clear hx hdr hav hnl
        go_upto_region 8 with fail
        obtain ⟨wn, HWN⟩ : ∃ x, Hid (wr0.alloc (.cells #[.string (str n.name), .int .i64 n.parent, .slice aa n.attrs.length acap, .int .i64 n.nameEnd, .int .i64 (p : Int), .int .i64 (q : Int)] 56 (0, 0)) = x) := ⟨_, rfl⟩
        have hn0 : wn.heap[wr0.heap.size]? = some (.cells #[.string (str n.name), .int .i64 n.parent, .slice aa n.attrs.length acap, .int .i64 n.nameEnd, .int .i64 (p : Int), .int .i64 (q : Int)] 56 (0, 0)) := by rw [← HWN.out]; exact newIn wr0 _
        have hkn : Kept (fun _ => False) wr0 wn := by rw [← HWN.out]; exact (Kept.refl _ wr0).alloc _
        have n0 : wn.cell? ⟨wr0.heap.size, 0, none⟩ = some (.string (str n.name)) := cellIn hn0 0 rfl
        have n4 : wn.cell? ⟨wr0.heap.size, 4, none⟩ = some (.int .i64 (p : Int)) := cellIn hn0 4 rfl
        have n5 : wn.cell? ⟨wr0.heap.size, 5, none⟩ = some (.int .i64 (q : Int)) := cellIn hn0 5 rfl
        have HN0 := Lib.hid hn0
        have HKN := Lib.hid hkn
        rw [HWN.out]
        have HRON : Hid (RulesOwn wn wb.heap.size (.slice ua rs.length uc) rs vs) := Lib.hid (NestOwn.other (S := fun _ => False) (w' := wn) HRO.out (fun u x _ hq => rule_lasts _ _ _ _ _ _ _ hq hkn (fun _ _ h => h.elim) (fun _ _ h => h)) hkn (fun _ _ => id))
        clear g0 g1 g2 g3 g4 g5 hn0 hkn
        by_cases hnm : n.name = styleName
        · rw [if_pos hnm] at he
          have hnb : (n.name == styleName) = true := by simpa using hnm
          unfold styleName at hnb
          obtain ⟨X, HX⟩ : ∃ X, Hid (sParse (sub s p q) = X) := ⟨_, rfl⟩
          rw [HX.out] at he
          have hsl : (sub s p q).length = q - p := sub_len s hpq hqs
          have HCS := sparse_any (sub s p q) wn m ((HK0.out.trans (HKB.out.trans (HK.out.trans HKN.out))).cell id HM.out) (by omega)
          rw [HX.out] at HCS
          replace HCS := Lib.hid HCS
          have HE1 := Lib.hid he
          unfold sub at HCS
          clear hnm he
          have hps : p ≤ s.length := by omega
          have HSL := Lib.hid hsl
          clear hsl
          go_wp2_with fail
          refine HCS.out.mono ?_
          intro e w3 he3
          cases X with
          | bad g =>
            obtain ⟨rfl, hb3⟩ := he3
            have hgb := sparse_bad HX.out
            rw [HSL.out] at hgb
            have hr : Hid (R = .bad ⟨g.err, p + g.pos⟩) := Lib.hid HE1.out.symm
            have hne : ((g.err : Int) != 0) = true := by have := hgb.1; simp; omega
            have hgp : (g.pos : Int) ≤ 6000 := by omega
            have hwr : IntKind.i64.wrap ((p : Int) + (g.pos : Int)) = (p : Int) + (g.pos : Int) := by rw [IntKind.wrap_i64]; omega
            obtain ⟨wg, HWG⟩ : ∃ x, Hid (w3.alloc (.cells #[.int .i64 (g.err : Int), .int .i64 (g.pos : Int)] 26 (0, 0)) = x) := ⟨_, rfl⟩
            have hkg : Kept (fun _ => False) wn wg := by rw [← HWG.out]; exact (Kept.of_below hb3).alloc _
            have c0 : wg.cell? ⟨w3.heap.size, 0, none⟩ = some (.int .i64 (g.err : Int)) := by rw [← HWG.out]; exact cellIn (newIn w3 _) 0 rfl
            have c1 : wg.cell? ⟨w3.heap.size, 1, none⟩ = some (.int .i64 (g.pos : Int)) := by rw [← HWG.out]; exact cellIn (newIn w3 _) 1 rfl
            have m4 := hkg.cell id n4
            obtain ⟨d, g0, g1, f0, f1⟩ := HPUT.out wg (HKB.out.trans (HK.out.trans (HKN.out.trans hkg))) (.int .i64 (g.err : Int)) (.int .i64 ((p : Int) + (g.pos : Int)))
            have HD := Lib.hid d
            go_upto_region 10 with fail
            rw [HWG.out]
            clear hb3 hkg d n0 n4 n5 hgb
            go_wp2_with fail
            go_region
            go_wp2_with fail
            obtain ⟨q0, q1, q2⟩ := HD.out
            revert q0 q1 q2
            generalize hwf : ((wg.setCell ⟨w.heap.size, 0, none⟩ (.int .i64 (g.err : Int))).setCell ⟨w.heap.size, 1, none⟩ (.int .i64 ((p : Int) + (g.pos : Int)))) = wf
            intro q0 q1 q2
            have p0 : wf.drew.cell? ⟨w.heap.size, 0, none⟩ = some (.int .i64 (g.err : Int)) := q0
            have p1 : wf.drew.cell? ⟨w.heap.size, 1, none⟩ = some (.int .i64 ((p : Int) + (g.pos : Int))) := q1
            refine bodyPost_ret (v := .tuple #[.slice none 0 0, .slice none 0 0, .agg #[.int .i64 (g.err : Int), .int .i64 ((p : Int) + (g.pos : Int))]]) (by simp [results, Tryz.results7, go_sem, p0, p1]) rfl ?_
            rw [hr.out]
            refine ⟨?_, q2.drew⟩
            unfold rdBad
            rw [Int.natCast_add]
          | ok xs =>
            obtain ⟨rv, vs2, rfl, hb3, hown3⟩ := he3
            obtain ⟨xa, xc, rfl⟩ := owns_form hown3.own
            have hxl := sparse_lim HX.out
            rw [HSL.out] at hxl
            obtain ⟨hx60, hxr⟩ := hxl
            have HXR := Lib.hid hxr
            obtain ⟨wg, HWG⟩ : ∃ x, Hid (w3.alloc (.cells #[.int .i64 0, .int .i64 0] 26 (0, 0)) = x) := ⟨_, rfl⟩
            have hkg3 : Kept (fun _ => False) w3 wg := by rw [← HWG.out]; exact (Kept.refl _ w3).alloc _
            have hkg : Kept (fun _ => False) wn wg := (Kept.of_below hb3).trans hkg3
            have c0 : wg.cell? ⟨w3.heap.size, 0, none⟩ = some (.int .i64 0) := by rw [← HWG.out]; exact cellIn (newIn w3 _) 0 rfl
            have HOG : Hid (RulesOwn wg wn.heap.size (.slice xa xs.length xc) (shiftTo p xs 0) vs2) := Lib.hid (by
              have := NestOwn.other (S := fun _ => False) (w' := wg) hown3 (fun u x _ hq => rule_lasts _ _ _ _ _ _ _ hq hkg3 (fun _ _ h => h.elim) (fun _ _ h => h)) hkg3 (fun _ _ => id)
              simpa [shiftTo] using this)
            have HKG := Lib.hid hkg
            have m4 := hkg.cell id n4
            have hcapx : xs.length ≤ xc ∧ xc ≤ maxLen := by
              rcases hown3.own.2 with ⟨h, hn⟩ | ⟨g, cap, cur, h, _, _, h1, h2, _⟩
              · simp only [Value.slice.injEq] at h
                obtain ⟨_, h1, rfl⟩ := h
                exact ⟨by omega, by simp [maxLen]⟩
              · simp only [Value.slice.injEq] at h
                obtain ⟨_, _, rfl⟩ := h
                exact ⟨h1, h2⟩
            obtain ⟨hcx1, hcx2⟩ := hcapx
            unfold maxLen at hcx2
            go_upto_region 10 with fail
            rw [HWG.out]
            clear hb3 hkg3 hkg hown3 hxr n0 n4 n5
            go_wp2_with fail
            go_loopw [66] (fun c wx => ∃ (k : Nat) (vs' : List Value), k ≤ xs.length ∧ c = .int .i64 (k : Int) ∧ Hid (RulesOwn wx wn.heap.size (.slice xa xs.length xc) (shiftTo p xs k) vs') ∧ Hid (Kept (fun b => (Value.slice xa xs.length xc).ownBlock = some b) wg wx)) (fun c _ => xs.length - (intOf c).toNat)
            case atStart => exact ⟨0, vs2, by omega, rfl, HOG, Lib.hid (Kept.refl _ _)⟩
            case round =>
              obtain ⟨k, vs', hk, rfl, HO, HKX⟩ := hrel
              obtain ⟨wr1, hwr1⟩ : ∃ x, x = wr := ⟨_, rfl⟩
              subst hwr1
              have hln : (shiftTo p xs k).length = xs.length := shiftTo_len p xs k
              have hlow : ∀ b, (Value.slice xa xs.length xc).ownBlock = some b → wn.heap.size ≤ b := fun b hb => (HO.out.own.lt b hb).1
              have HLOW := Lib.hid hlow
              have HKF : Hid (Kept (fun _ => False) wn wr1) := Lib.hid (HKG.out.trans' HKX.out (fun b hb hS => by have := hlow b hS; omega))
              have x4 : wr1.cell? ⟨wr0.heap.size, 4, none⟩ = some (.int .i64 (p : Int)) := HKF.out.cell id (cellIn HN0.out 4 rfl)
              clear hlow
              by_cases hklt : k < xs.length
              · have hy := List.getElem?_eq_getElem hklt
                generalize hgy : xs[k] = y at hy
                clear hgy
                have hyk := shiftTo_get (d := p) hy
                obtain ⟨g, cur, u, rfl, hgh, hgb, hcs⟩ := RulesOwn.block HO.out hyk
                obtain ⟨_, hy0, hy1, hy2⟩ := HXR.out y (List.mem_of_getElem? hy)
                obtain ⟨lo, hlo⟩ : ∃ lo : Nat, y.lo = lo := ⟨y.lo.toNat, by omega⟩
                obtain ⟨hi', hhi⟩ : ∃ hi : Nat, y.hi = hi := ⟨y.hi.toNat, by omega⟩
                have q3 := hcs 3 (.int .i64 y.lo) rfl
                have q4 := hcs 4 (.int .i64 y.hi) rfl
                rw [hlo] at q3
                rw [hhi] at q4
                have fr3 := freeIn hgh (k * 5 + 3)
                have hO1 := HO.out.put (j := 3) (c := .int .i64 ((lo : Int) + (p : Int))) (x' := { y with lo := (lo : Int) + (p : Int) }) ruleCells_len rule_lasts hyk (by omega) (fun u => rfl) (fun w X u h => h)
                have hw1 : IntKind.i64.wrap ((lo : Int) + (p : Int)) = (lo : Int) + (p : Int) := by rw [IntKind.wrap_i64]; omega
                have hw2 : IntKind.i64.wrap ((hi' : Int) + (p : Int)) = (hi' : Int) + (p : Int) := by rw [IntKind.wrap_i64]; omega
                have hb1 : (lo : Int) ≤ 6000 := by omega
                have hb2 : (hi' : Int) ≤ 6000 := by omega
                have hb3 : (p : Int) ≤ 6000 := by omega
                have K1 := HKX.out.setCell (p := ⟨g, k * 5 + 3, none⟩) (.inl rfl) (.int .i64 ((lo : Int) + (p : Int)))
                have HY := Lib.hid hy
                have HYK := Lib.hid hyk
                have HLO := Lib.hid hlo
                have HHI := Lib.hid hhi
                clear hy hyk hcs hy0 hy1 hy2 hlo hhi
                go_upto_region 15 with fail
                go_region
                obtain ⟨w9, HW9⟩ : ∃ x, Hid ((wr1.setCell ⟨g, k * 5 + 3, none⟩ (.int .i64 ((lo : Int) + (p : Int)))).drew = x) := ⟨_, rfl⟩
                have hO9 : RulesOwn w9 wn.heap.size (.slice (some ⟨g, 0, none⟩) xs.length xc) ((shiftTo p xs k).set k { y with lo := (lo : Int) + (p : Int) }) vs' := by
                  rw [← HW9.out]; exact RulesOwn.still hO1 (Kept.refl (fun _ => False) _).drew
                have K9 : Kept (fun b => (Value.slice (some ⟨g, 0, none⟩) xs.length xc).ownBlock = some b) wg w9 := by rw [← HW9.out]; exact K1.drew
                rw [HW9.out]
                have HKF9 : Kept (fun _ => False) wn w9 := HKG.out.trans' K9 (fun b hb hS => by have := HLOW.out b hS; omega)
                have x9 : w9.cell? ⟨wr0.heap.size, 4, none⟩ = some (.int .i64 (p : Int)) := HKF9.cell id (cellIn HN0.out 4 rfl)
                have hkl : k < (shiftTo p xs k).length := by rw [hln]; exact hklt
                have hyk1 : ((shiftTo p xs k).set k { y with lo := (lo : Int) + (p : Int) })[k]? = some { y with lo := (lo : Int) + (p : Int) } := List.getElem?_set_self hkl
                have hln2 : ((shiftTo p xs k).set k { y with lo := (lo : Int) + (p : Int) }).length = xs.length := by rw [List.length_set, hln]
                obtain ⟨g', cur2, u2', hgg, hgh2, _, hcs2⟩ := RulesOwn.block hO9 hyk1
                cases hgg
                have r4 := hcs2 4 (.int .i64 y.hi) rfl
                rw [HHI.out] at r4
                have fr4 := freeIn hgh2 (k * 5 + 4)
                have hO2 := hO9.put (j := 4) (c := .int .i64 ((hi' : Int) + (p : Int))) (x' := { y with lo := (lo : Int) + (p : Int), hi := (hi' : Int) + (p : Int) }) ruleCells_len rule_lasts hyk1 (by omega) (fun u => rfl) (fun w X u h => h)
                have hset : ((shiftTo p xs k).set k { y with lo := (lo : Int) + (p : Int) }).set k { y with lo := (lo : Int) + (p : Int), hi := (hi' : Int) + (p : Int) } = shiftTo p xs (k + 1) := by
                  have := shiftTo_set (d := p) (y := { y with lo := (lo : Int) + (p : Int) }) HY.out
                  rw [← this]
                  congr 1
                  unfold PRule.shift
                  rw [HLO.out, HHI.out]
                rw [hset] at hO2
                have K2 := Lib.hid (K9.setCell (p := ⟨g, k * 5 + 4, none⟩) (.inl rfl) (.int .i64 ((hi' : Int) + (p : Int)))).drew
                have HO2 := Lib.hid (RulesOwn.still hO2 (Kept.refl (fun _ => False) _).drew)
                clear hO1 K1 hO9 K9 HKF9 hyk1 hgh2 hcs2 hO2 hset q3 q4 fr3 hgh x4
                go_wp2_with fail
                go_region
                go_wp2_with fail
                go_roundw
                case measure => simp [intOf]; omega
                case rel => exact ⟨k + 1, vs', by omega, by go_num, HO2, K2⟩
              · obtain rfl : k = xs.length := by omega
                have hO : RulesOwn wr1 wn.heap.size (.slice xa (xs.map (PRule.shift p)).length xc) (xs.map (PRule.shift p)) vs' := by
                  have := HO.out
                  rw [shiftTo_done] at this
                  simpa using this
                have hmx : (xs.map (PRule.shift p)).length = xs.length := by simp
                obtain ⟨a', c', w', happ, happO, happK⟩ := RulesOwn.app (HRON.out.still HKF.out) hO (by have := HK.out.size; have := HKN.out.size; omega) HKF.out.size (fun b hb => (HRON.out.own.lt b hb).2) (by rw [hmx]; omega)
                rw [hmx] at happ happO
                have HAPP := Lib.hid happ
                have HAO : Hid (RulesOwn w' wb.heap.size (.slice a' (rs ++ xs.map (PRule.shift p)).length c') (rs ++ xs.map (PRule.shift p)) (vs ++ vs')) := Lib.hid (by
                  rw [List.length_append, hmx]; exact happO)
                have HAK : Hid (Kept (fun _ => False) wb w') := Lib.hid ((HK.out.trans (HKN.out.trans HKF.out)).trans' happK (fun b hb hS => by have := (HRO.out.own.lt b hS).1; omega))
                have HRL2 : Hid (∀ r ∈ rs ++ xs.map (PRule.shift p), RuleLim r ∧ 0 ≤ r.lo ∧ r.lo ≤ r.hi ∧ r.hi ≤ s.length) := Lib.hid (by
                  intro r hr
                  rcases List.mem_append.1 hr with hr | hr
                  · exact HRL.out r hr
                  · obtain ⟨y, hy, rfl⟩ := List.mem_map.1 hr
                    obtain ⟨b1, b2, b3, b4⟩ := HXR.out y hy
                    refine ⟨b1.shift _, ?_⟩
                    have el : (y.shift p).lo = y.lo + (p : Int) := rfl
                    have eh : (y.shift p).hi = y.hi + (p : Int) := rfl
                    rw [el, eh]
                    omega)
                have hl2 : (rs ++ xs.map (PRule.shift p)).length ≤ 60 * (i + 1) := by rw [List.length_append, hmx]; omega
                have hl3 : (rs ++ xs.map (PRule.shift p)).length = rs.length + xs.length := by rw [List.length_append, hmx]
                rw [hl3] at HAO
                clear hO happ happO happK
                go_wp2_with (at_builtin; refine wpList_append_eq (by rfl) _ _ _ rfl _ _ _ rfl rfl _ HAPP.out ?_)
                go_roundw
                case measure => simp [intOf]; omega
                case rel => exact ⟨i + 1, _, _, by omega, hl2, by go_num, HAK, HAO, HRL2, HE1⟩
        · rw [if_neg hnm] at he
          have hnb : (n.name == styleName) = false := by simpa using hnm
          unfold styleName at hnb
          have HE1 := Lib.hid he
          clear hnm he
          go_wp2_with fail
          go_roundw
          case measure => simp [intOf]; omega
          case rel => exact ⟨i + 1, rs, vs, by omega, by omega, by go_num, Lib.hid (HK.out.trans HKN.out), HRON, HRL, HE1⟩
      · obtain rfl : i = l.length := by omega
        have he : rdRest l rs = R := by
          have := HE.out
          rw [List.drop_length] at this
          simpa [styleRules] using this
        have hrc : rs.length ≤ 7200 := by omega
        have hcap2 : rs.length ≤ uc ∧ uc ≤ maxLen := by
          rcases HRO.out.own.2 with ⟨h, hn⟩ | ⟨g, cap, cur, h, _, _, h1, h2, _⟩
          · simp only [Value.slice.injEq] at h
            obtain ⟨_, h1, rfl⟩ := h
            exact ⟨by omega, by simp [maxLen]⟩
          · simp only [Value.slice.injEq] at h
            obtain ⟨_, _, rfl⟩ := h
            exact ⟨h1, h2⟩
        obtain ⟨hcu1, hcu2⟩ := hcap2
        unfold maxLen at hcu2
        have HRA : Hid (RulesAt wr0 (.slice ua rs.length uc) rs) := Lib.hid (rules_reads (HRO.out.done ruleCells_len rule_lasts))
        have HKW := Lib.hid (HKB.out.trans HK.out)
        have HLA : Hid (NodesAt wr0 (.slice la l.length lc) l) := Lib.hid (nodes_firm.kept HLV.out HK.out)
        have hsz := rs.length
        by_cases h60 : 60 < rs.length
        · have hr : Hid (R = .bad ⟨5, 0⟩) := Lib.hid (by rw [← he]; unfold rdRest; rw [if_pos h60])
          have h60I : (60 : Int) < rs.length := by omega
          obtain ⟨d, g0, g1, f0, f1⟩ := HPUT.out wr0 HKW.out (.int .i64 5) (.int .i64 0)
          have HD := Lib.hid d
          clear d he h60
          go_wp2_with fail
          obtain ⟨q0, q1, q2⟩ := HD.out
          revert q0 q1 q2
          generalize hwf : ((wr0.setCell ⟨w.heap.size, 0, none⟩ (.int .i64 5)).setCell ⟨w.heap.size, 1, none⟩ (.int .i64 0)) = wf
          intro q0 q1 q2
          have p0 : wf.cell? ⟨w.heap.size, 0, none⟩ = some (.int .i64 5) := q0
          have p1 : wf.cell? ⟨w.heap.size, 1, none⟩ = some (.int .i64 0) := q1
          refine bodyPost_ret (v := .tuple #[.slice none 0 0, .slice none 0 0, .agg #[.int .i64 5, .int .i64 0]]) (by simp [results, Tryz.results7, go_sem, p0, p1]) rfl ?_
          rw [hr.out]
          exact ⟨rfl, q2⟩
        · have he2 : rdRules l rs (rs.drop 0) = R := by rw [← he]; unfold rdRest; rw [if_neg h60]; rfl
          have HE2 := Lib.hid he2
          have hr60 : (rs.length : Int) ≤ 60 := by omega
          clear he he2 h60
          obtain ⟨wA, hwA⟩ : ∃ x, x = wr0 := ⟨_, rfl⟩
          subst hwA
          go_wp2_with fail
          go_loopw [106] (fun c wx => ∃ i : Nat, i ≤ rs.length ∧ c = .int .i64 (i : Int) ∧ Hid (Kept (fun _ => False) wA wx) ∧ Hid (rdRules l rs (rs.drop i) = R)) (fun c _ => rs.length - (intOf c).toNat)
          case atStart => exact ⟨0, by omega, rfl, Lib.hid (Kept.refl _ _), HE2⟩
          case round =>
            obtain ⟨i, hi, rfl, HKR, HEI⟩ := hrel
            obtain ⟨wr1, hwr1⟩ : ∃ x, x = wr := ⟨_, rfl⟩
            subst hwr1
            have HKR0 := Lib.hid (HKW.out.trans HKR.out)
            by_cases hlt1 : i < rs.length
            · have hx := List.getElem?_eq_getElem hlt1
              have hdr := List.drop_eq_getElem_cons hlt1
              generalize hgx : rs[i] = r at hx hdr
              clear hgx
              have hei := HEI.out
              rw [hdr, rdRules_cons] at hei
              obtain ⟨rb, ro, u, rfl, hcs, hru⟩ := NestAt.at (rules_firm.kept HRA.out HKR.out) hx
              obtain ⟨sv, dv, rfl, hss, hds⟩ := hru
              obtain ⟨sa, sc, rfl, _, _⟩ := NestAt.form hss
              obtain ⟨da, dc, rfl, hdc1, hdc2⟩ := DeclsAt.form hds
              obtain ⟨hrl, hr0, hr1, hr2⟩ := HRL.out r (List.mem_of_getElem? hx)
              obtain ⟨lo, hlo⟩ : ∃ lo : Nat, r.lo = lo := ⟨r.lo.toNat, by omega⟩
              have c0 : wr1.cell? ⟨rb, ro + i * 5, none⟩ = some (.string (str r.media)) := hcs 0 _ rfl
              have c1 : wr1.cell? ⟨rb, ro + i * 5 + 1, none⟩ = some (.slice sa r.sels.length sc) := hcs 1 _ rfl
              have c2 : wr1.cell? ⟨rb, ro + i * 5 + 2, none⟩ = some (.slice da r.decls.length dc) := hcs 2 _ rfl
              have c3 : wr1.cell? ⟨rb, ro + i * 5 + 3, none⟩ = some (.int .i64 (lo : Int)) := by have := hcs 3 _ rfl; rwa [hlo] at this
              have c4 : wr1.cell? ⟨rb, ro + i * 5 + 4, none⟩ = some (.int .i64 r.hi) := hcs 4 _ rfl
              rw [hlo, Int.toNat_natCast] at hei
              have hlo6 : (lo : Int) ≤ 6000 := by omega
              clear hcs hss hx hdr hr0 hr1 hr2 hlo
              obtain ⟨wn, HWN⟩ : ∃ x, Hid (wr1.alloc (.cells #[.string (str r.media), .slice sa r.sels.length sc, .slice da r.decls.length dc, .int .i64 (lo : Int), .int .i64 r.hi] 49 (0, 0)) = x) := ⟨_, rfl⟩
              have hn0 : wn.heap[wr1.heap.size]? = some (.cells #[.string (str r.media), .slice sa r.sels.length sc, .slice da r.decls.length dc, .int .i64 (lo : Int), .int .i64 r.hi] 49 (0, 0)) := by rw [← HWN.out]; exact newIn wr1 _
              have hkn : Kept (fun _ => False) wr1 wn := by rw [← HWN.out]; exact (Kept.refl _ wr1).alloc _
              have n2 : wn.cell? ⟨wr1.heap.size, 2, none⟩ = some (.slice da r.decls.length dc) := cellIn hn0 2 rfl
              have HN0 := Lib.hid hn0
              have HKN := Lib.hid (HKR0.out.trans hkn)
              obtain ⟨X, HX⟩ : ∃ X, Hid (pAll r.decls = X) := ⟨_, rfl⟩
              have HCA := all_any wn _ r.decls (RowsAt.below hds hkn.below) (by have := hrl.decls; omega) (fun d hd => by have := (hrl.each d hd).2; omega) m ((HK0.out.trans HKN.out).cell id HM.out)
              rw [HX.out] at HCA hei
              replace HCA := Lib.hid HCA
              have HEI2 := Lib.hid hei
              unfold maxLen at hdc2
              go_upto_region 25 with fail
              rw [HWN.out]
              clear c0 c1 c2 c3 c4 hn0 hkn hds hrl hei
              go_wp2_with fail
              refine HCA.out.mono ?_
              intro e w5 he5
              cases X with
              | none =>
                obtain ⟨rfl, hb5⟩ := he5
                have hk5 : Kept (fun _ => False) wn w5 := Kept.of_below hb5
                have hr : Hid (R = .bad ⟨5, lo⟩) := Lib.hid HEI2.out.symm
                have x3 : w5.cell? ⟨wr1.heap.size, 3, none⟩ = some (.int .i64 (lo : Int)) := hk5.cell id (cellIn HN0.out 3 rfl)
                obtain ⟨d, g0, g1, f0, f1⟩ := HPUT.out w5 (HKN.out.trans hk5) (.int .i64 5) (.int .i64 (lo : Int))
                have HD := Lib.hid d
                clear d hb5 hk5 n2
                go_wp2_with fail
                go_region
                go_wp2_with fail
                obtain ⟨q0, q1, q2⟩ := HD.out
                revert q0 q1 q2
                generalize hwf : ((w5.setCell ⟨w.heap.size, 0, none⟩ (.int .i64 5)).setCell ⟨w.heap.size, 1, none⟩ (.int .i64 (lo : Int))) = wf
                intro q0 q1 q2
                have p0 : wf.drew.cell? ⟨w.heap.size, 0, none⟩ = some (.int .i64 5) := q0
                have p1 : wf.drew.cell? ⟨w.heap.size, 1, none⟩ = some (.int .i64 (lo : Int)) := q1
                refine bodyPost_ret (v := .tuple #[.slice none 0 0, .slice none 0 0, .agg #[.int .i64 5, .int .i64 (lo : Int)]]) (by simp [results, Tryz.results7, go_sem, p0, p1]) rfl ?_
                rw [hr.out]
                exact ⟨rfl, q2.drew⟩
              | some x =>
                obtain ⟨xv, rfl, hb5, _⟩ := he5
                have hk5 : Kept (fun _ => False) wn w5 := Kept.of_below hb5
                have HK5 : Hid (Kept (fun _ => False) wA w5) := Lib.hid (HKR.out.trans (((Kept.refl _ wr1).alloc _).trans (by rw [HWN.out]; exact hk5)))
                clear hb5 hk5 n2
                go_wp2_with fail
                go_roundw
                case measure => simp [intOf]; omega
                case rel => exact ⟨i + 1, by omega, by go_num, HK5, Lib.hid (by have := HEI2.out; simpa using this)⟩
            · obtain rfl : i = rs.length := by omega
              have hei : rdNodes l rs ((l.drop 0).flatMap (·.attrs)) = R := by
                have := HEI.out
                rw [List.drop_length, rdRules_nil] at this
                exact this
              have HE3 := Lib.hid hei
              clear hei
              have HKR1 := HKR
              obtain ⟨wB, hwB⟩ : ∃ x, x = wr1 := ⟨_, rfl⟩
              subst hwB
              go_wp2_with fail
              go_loopw [126] (fun c wx => ∃ k : Nat, k ≤ l.length ∧ c = .int .i64 (k : Int) ∧ Hid (Kept (fun _ => False) wB wx) ∧ Hid (rdNodes l rs ((l.drop k).flatMap (·.attrs)) = R)) (fun c _ => l.length - (intOf c).toNat)
              case atStart => exact ⟨0, by omega, rfl, Lib.hid (Kept.refl _ _), HE3⟩
              case round =>
                obtain ⟨k, hk, rfl, HKN, HEN⟩ := hrel
                obtain ⟨wr2, hwr2⟩ : ∃ x, x = wr := ⟨_, rfl⟩
                subst hwr2
                have HKA2 := Lib.hid (HKR1.out.trans HKN.out)
                by_cases hlt2 : k < l.length
                · have hx := List.getElem?_eq_getElem hlt2
                  have hdr := List.drop_eq_getElem_cons hlt2
                  generalize hgx : l[k] = n at hx hdr
                  clear hgx
                  have hen := HEN.out
                  rw [hdr, List.flatMap_cons] at hen
                  obtain ⟨nb, noff, av, rfl, g0, g1, g2, g3, g4, g5, hav⟩ := (nodes_firm.kept HLA.out HKA2.out).at hx
                  have hnl := HNODE.out n (List.mem_of_getElem? hx)
                  obtain ⟨aa, acap, rfl, hac1, hac2⟩ := hav.form
                  unfold maxLen at hac2
                  have HAV := Lib.hid hav
                  have HAL := Lib.hid hnl.attrs
                  have HEN2 : Hid (rdNodes l rs (n.attrs.drop 0 ++ (l.drop (k + 1)).flatMap (·.attrs)) = R) := Lib.hid (by simpa using hen)
                  clear hx hdr hen hnl hav g0 g1 g3 g4 g5
                  go_wp2_with fail
                  go_loopw [135] (fun c wx => ∃ j : Nat, j ≤ n.attrs.length ∧ c = .int .i64 (j : Int) ∧ Hid (Kept (fun _ => False) wr2 wx) ∧ Hid (rdNodes l rs (n.attrs.drop j ++ (l.drop (k + 1)).flatMap (·.attrs)) = R)) (fun c _ => n.attrs.length - (intOf c).toNat)
                  case atStart => exact ⟨0, by omega, rfl, Lib.hid (Kept.refl _ _), HEN2⟩
                  case round =>
                    obtain ⟨j, hj, rfl, HKJ, HEJ⟩ := hrel
                    obtain ⟨wr3, hwr3⟩ : ∃ x, x = wr := ⟨_, rfl⟩
                    subst hwr3
                    by_cases hlt3 : j < n.attrs.length
                    · have hy := List.getElem?_eq_getElem hlt3
                      have hdy := List.drop_eq_getElem_cons hlt3
                      generalize hgy : n.attrs[j] = y at hy hdy
                      clear hgy
                      have hej := HEJ.out
                      rw [hdy, List.cons_append, rdNodes_cons] at hej
                      obtain ⟨ab, ao, rfl, e0, e1, e2, e3⟩ := AttrsAt.at (HAV.out.below HKJ.out.below) hy
                      obtain ⟨y1, y2, y3, y4, y5⟩ := HAL.out y (List.mem_of_getElem? hy)
                      obtain ⟨lo, hlo⟩ : ∃ lo : Nat, y.lo = lo := ⟨y.lo.toNat, by omega⟩
                      rw [hlo] at e2
                      have hlo6 : (lo : Int) ≤ 6000 := by omega
                      obtain ⟨wn, HWN⟩ : ∃ x, Hid (wr3.alloc (.cells #[.string (str y.name), .string (str y.val), .int .i64 (lo : Int), .int .i64 y.hi] 77 (0, 0)) = x) := ⟨_, rfl⟩
                      have hn0 : wn.heap[wr3.heap.size]? = some (.cells #[.string (str y.name), .string (str y.val), .int .i64 (lo : Int), .int .i64 y.hi] 77 (0, 0)) := by rw [← HWN.out]; exact newIn wr3 _
                      have hkn : Kept (fun _ => False) wr3 wn := by rw [← HWN.out]; exact (Kept.refl _ wr3).alloc _
                      have n0 : wn.cell? ⟨wr3.heap.size, 0, none⟩ = some (.string (str y.name)) := cellIn hn0 0 rfl
                      have n1 : wn.cell? ⟨wr3.heap.size, 1, none⟩ = some (.string (str y.val)) := cellIn hn0 1 rfl
                      have HN0 := Lib.hid hn0
                      have HKN3 := Lib.hid (HKJ.out.trans hkn)
                      have HKW3 := Lib.hid (HKW.out.trans (HKA2.out.trans (HKJ.out.trans hkn)))
                      go_upto_region 35 with fail
                      rw [HWN.out]
                      clear hy hdy e0 e1 e2 e3 hn0 hkn
                      by_cases hnm : y.name = styleName
                      · have hnb : (y.name == styleName) = true := by simpa using hnm
                        unfold styleName at hnb
                        have hat : attrBad y = match sDeclsOf y.val with
                            | .bad f => some ⟨f.err, lo⟩
                            | .ok ds => if (pAll ds).isNone then some ⟨5, lo⟩ else none := by
                          unfold attrBad
                          rw [if_pos hnm, hlo, Int.toNat_natCast]
                          cases sDeclsOf y.val <;> rfl
                        rw [hat] at hej
                        obtain ⟨X, HX⟩ : ∃ X, Hid (sDeclsOf y.val = X) := ⟨_, rfl⟩
                        rw [HX.out] at hej
                        have HCD := sdeclsOf_any y.val wn m ((HK0.out.trans HKW3.out).cell id HM.out) (by omega)
                        rw [HX.out] at HCD
                        replace HCD := Lib.hid HCD
                        have HEJ2 := Lib.hid hej
                        clear hej hat hnm y1 y2 y3 y4 y5 hlo
                        go_wp2_with fail
                        refine HCD.out.mono ?_
                        intro e w5 he5
                        cases X with
                        | bad g =>
                          obtain ⟨rfl, hb5⟩ := he5
                          have hgb := (sdeclsOf_bad HX.out).1
                          have hgne : ((g.err : Int) == 0) = false := by simp; omega
                          have hgne2 : ((g.err : Int) != 0) = true := by simp; omega
                          have hr : Hid (R = .bad ⟨g.err, lo⟩) := Lib.hid HEJ2.out.symm
                          obtain ⟨wg, HWG⟩ : ∃ x, Hid (w5.alloc (.cells #[.int .i64 (g.err : Int), .int .i64 (g.pos : Int)] 26 (0, 0)) = x) := ⟨_, rfl⟩
                          have hkg : Kept (fun _ => False) wn wg := by rw [← HWG.out]; exact (Kept.of_below hb5).alloc _
                          have c0 : wg.cell? ⟨w5.heap.size, 0, none⟩ = some (.int .i64 (g.err : Int)) := by rw [← HWG.out]; exact cellIn (newIn w5 _) 0 rfl
                          have x2 : wg.cell? ⟨wr3.heap.size, 2, none⟩ = some (.int .i64 (lo : Int)) := hkg.cell id (cellIn HN0.out 2 rfl)
                          obtain ⟨d, h0, h1, f0, f1⟩ := HPUT.out wg (HKW3.out.trans hkg) (.int .i64 (g.err : Int)) (.int .i64 (lo : Int))
                          have HD := Lib.hid d
                          clear d hkg n0 n1 hgb
                          go_upto_region 37 with fail
                          rw [HWG.out]
                          clear hb5
                          go_wp2_with fail
                          go_region
                          go_wp2_with fail
                          obtain ⟨q0, q1, q2⟩ := HD.out
                          revert q0 q1 q2
                          generalize hwf : ((wg.setCell ⟨w.heap.size, 0, none⟩ (.int .i64 (g.err : Int))).setCell ⟨w.heap.size, 1, none⟩ (.int .i64 (lo : Int))) = wf
                          intro q0 q1 q2
                          have p0 : wf.drew.cell? ⟨w.heap.size, 0, none⟩ = some (.int .i64 (g.err : Int)) := q0
                          have p1 : wf.drew.cell? ⟨w.heap.size, 1, none⟩ = some (.int .i64 (lo : Int)) := q1
                          refine bodyPost_ret (v := .tuple #[.slice none 0 0, .slice none 0 0, .agg #[.int .i64 (g.err : Int), .int .i64 (lo : Int)]]) (by simp [results, Tryz.results7, go_sem, p0, p1]) rfl ?_
                          rw [hr.out]
                          exact ⟨rfl, q2.drew⟩
                        | ok ds =>
                          obtain ⟨dv, rfl, hb5, hds⟩ := he5
                          obtain ⟨da, dc, rfl, hdc1, hdc2⟩ := DeclsIn.form hds
                          unfold maxLen at hdc2
                          have hok := declsOf_ok_of HX.out
                          obtain ⟨wg, HWG⟩ : ∃ x, Hid (w5.alloc (.cells #[.int .i64 0, .int .i64 0] 26 (0, 0)) = x) := ⟨_, rfl⟩
                          have hkg5 : Kept (fun _ => False) w5 wg := by rw [← HWG.out]; exact (Kept.refl _ w5).alloc _
                          have hkg : Kept (fun _ => False) wn wg := (Kept.of_below hb5).trans hkg5
                          have hlt5 : wn.heap.size ≤ w5.heap.size := hb5.size
                          have hg0 : wg.heap[w5.heap.size]? = some (.cells #[.int .i64 0, .int .i64 0] 26 (0, 0)) := by rw [← HWG.out]; exact newIn w5 _
                          have c0 : wg.cell? ⟨w5.heap.size, 0, none⟩ = some (.int .i64 0) := cellIn hg0 0 rfl
                          have HG0 := Lib.hid hg0
                          have HKG := Lib.hid hkg
                          obtain ⟨Y, HY⟩ : ∃ Y, Hid (pAll ds = Y) := ⟨_, rfl⟩
                          have HCA := all_any wg _ ds (RowsAt.below hds.1 hkg5.below) (by have := hok.2; omega) (fun d hd => by have := (declOk_lim (hok.1 d hd)).2; omega) m ((HK0.out.trans (HKW3.out.trans hkg)).cell id HM.out)
                          have hej2 := HEJ2.out
                          simp only at hej2
                          rw [HY.out] at HCA hej2
                          replace HCA := Lib.hid HCA
                          have HEJ3 := Lib.hid hej2
                          go_upto_region 37 with fail
                          rw [HWG.out]
                          clear hb5 hkg5 hkg hg0 hds hok hej2 n0 n1
                          go_wp2_with fail
                          refine HCA.out.mono ?_
                          intro e w6 he6
                          cases Y with
                          | none =>
                            obtain ⟨rfl, hb6⟩ := he6
                            have hk6 : Kept (fun _ => False) wg w6 := Kept.of_below hb6
                            have hr : Hid (R = .bad ⟨5, lo⟩) := Lib.hid HEJ3.out.symm
                            have hg6 := hk6.heap id HG0.out
                            have d0 : w6.cell? ⟨w5.heap.size, 0, none⟩ = some (.int .i64 0) := cellIn hg6 0 rfl
                            have fz0 : w6.frozen? ⟨w5.heap.size, 0, none⟩ = false := freeIn hg6 0
                            have hg7 := setIn hg6 0 (.int .i64 5)
                            have d1 : (w6.setCell ⟨w5.heap.size, 0, none⟩ (.int .i64 5)).cell? ⟨w5.heap.size, 0, none⟩ = some (.int .i64 5) := cellIn hg7 0 rfl
                            have hk7 : Kept (fun _ => False) wn (w6.setCell ⟨w5.heap.size, 0, none⟩ (.int .i64 5)) := (HKG.out.trans hk6).setCell (.inr hlt5) _
                            have x2 : (w6.setCell ⟨w5.heap.size, 0, none⟩ (.int .i64 5)).cell? ⟨wr3.heap.size, 2, none⟩ = some (.int .i64 (lo : Int)) := hk7.cell id (cellIn HN0.out 2 rfl)
                            obtain ⟨d, h0, h1, f0, f1⟩ := HPUT.out _ (HKW3.out.trans hk7) (.int .i64 5) (.int .i64 (lo : Int))
                            have HD := Lib.hid d
                            clear d hb6 hk6 hg6 hg7 hk7
                            go_upto_region 39 with fail
                            generalize w6.setCell ⟨w5.heap.size, 0, none⟩ (.int .i64 5) = w7 at *
                            go_wp2_with fail
                            go_region
                            go_wp2_with fail
                            obtain ⟨q0, q1, q2⟩ := HD.out
                            revert q0 q1 q2
                            generalize hwf : ((w7.setCell ⟨w.heap.size, 0, none⟩ (.int .i64 5)).setCell ⟨w.heap.size, 1, none⟩ (.int .i64 (lo : Int))) = wf
                            intro q0 q1 q2
                            have p0 : wf.drew.cell? ⟨w.heap.size, 0, none⟩ = some (.int .i64 5) := q0
                            have p1 : wf.drew.cell? ⟨w.heap.size, 1, none⟩ = some (.int .i64 (lo : Int)) := q1
                            refine bodyPost_ret (v := .tuple #[.slice none 0 0, .slice none 0 0, .agg #[.int .i64 5, .int .i64 (lo : Int)]]) (by simp [results, Tryz.results7, go_sem, p0, p1]) rfl ?_
                            rw [hr.out]
                            exact ⟨rfl, q2.drew⟩
                          | some x =>
                            obtain ⟨xv, rfl, hb6, _⟩ := he6
                            have hk6 : Kept (fun _ => False) wg w6 := Kept.of_below hb6
                            have hg6 := hk6.heap id HG0.out
                            have d0 : w6.cell? ⟨w5.heap.size, 0, none⟩ = some (.int .i64 0) := cellIn hg6 0 rfl
                            have fz0 : w6.frozen? ⟨w5.heap.size, 0, none⟩ = false := freeIn hg6 0
                            have hg7 := setIn hg6 0 (.int .i64 0)
                            have d1 : (w6.setCell ⟨w5.heap.size, 0, none⟩ (.int .i64 0)).cell? ⟨w5.heap.size, 0, none⟩ = some (.int .i64 0) := cellIn hg7 0 rfl
                            have hk7 : Kept (fun _ => False) wn (w6.setCell ⟨w5.heap.size, 0, none⟩ (.int .i64 0)) := (HKG.out.trans hk6).setCell (.inr hlt5) _
                            have HK7 := Lib.hid (HKN3.out.trans hk7)
                            clear hb6 hk6 hg6 hg7 hk7
                            go_upto_region 39 with fail
                            generalize w6.setCell ⟨w5.heap.size, 0, none⟩ (.int .i64 0) = w7 at *
                            go_wp2_with fail
                            go_roundw
                            case measure => simp [intOf]; omega
                            case rel => exact ⟨j + 1, by omega, by go_num, HK7, Lib.hid (by have := HEJ3.out; simpa using this)⟩
                      · have hnb : (y.name == styleName) = false := by simpa using hnm
                        unfold styleName at hnb
                        have hat : attrBad y = none := by unfold attrBad; rw [if_neg hnm]
                        rw [hat] at hej
                        have HEJ2 := Lib.hid hej
                        clear hej hat hnm
                        go_wp2_with fail
                        go_roundw
                        case measure => simp [intOf]; omega
                        case rel => exact ⟨j + 1, by omega, by go_num, HKN3, HEJ2⟩
                    · obtain rfl : j = n.attrs.length := by omega
                      have HEK : Hid (rdNodes l rs ((l.drop (k + 1)).flatMap (·.attrs)) = R) := Lib.hid (by
                        have := HEJ.out
                        rw [List.drop_length, List.nil_append] at this
                        exact this)
                      have HKK := Lib.hid (HKN.out.trans HKJ.out)
                      go_wp2_with fail
                      go_roundw
                      case measure => simp [intOf]; omega
                      case rel => exact ⟨k + 1, by omega, by go_num, HKK, HEK⟩
                · obtain rfl : k = l.length := by omega
                  have hr : Hid (R = .ok (l, rs)) := Lib.hid (by
                    have := HEN.out
                    rw [List.drop_length] at this
                    exact this.symm)
                  obtain ⟨d, h0, h1, f0, f1⟩ := HPUT.out wr2 (HKW.out.trans HKA2.out) (.int .i64 0) (.int .i64 0)
                  have HD := Lib.hid d
                  have HLF : Hid (NodesAt ((wr2.setCell ⟨w.heap.size, 0, none⟩ (.int .i64 0)).setCell ⟨w.heap.size, 1, none⟩ (.int .i64 0)) (.slice la l.length lc) l ∧ RulesAt ((wr2.setCell ⟨w.heap.size, 0, none⟩ (.int .i64 0)).setCell ⟨w.heap.size, 1, none⟩ (.int .i64 0)) (.slice ua rs.length uc) rs) := Lib.hid (by
                    have hkf : Kept (· = w.heap.size) wr2 ((wr2.setCell ⟨w.heap.size, 0, none⟩ (.int .i64 0)).setCell ⟨w.heap.size, 1, none⟩ (.int .i64 0)) := ((Kept.refl (· = w.heap.size) wr2).setCell (p := ⟨w.heap.size, 0, none⟩) (.inl rfl) _).setCell (p := ⟨w.heap.size, 1, none⟩) (.inl rfl) _
                    have hfb : wr2.heap[w.heap.size]? = some (.cells #[.int .i64 0, .int .i64 0] 26 (0, 0)) := (HKW.out.trans HKA2.out).heap id (by rw [← HW0.out]; exact newIn w _)
                    refine ⟨nodes_fault hfb hkf (nodes_firm.kept HLA.out HKA2.out), ?_⟩
                    have hlt : w.heap.size < wb.heap.size := by
                      have h1 : w0.heap.size = w.heap.size + 1 := by rw [← HW0.out]; simp
                      have := HKB.out.size
                      omega
                    exact rules_reads ((NestOwn.kept (RulesOwn.still HRO.out HKA2.out) rule_lasts hlt hkf).done ruleCells_len rule_lasts))
                  clear d
                  go_wp2_with fail
                  obtain ⟨q0, q1, q2⟩ := HD.out
                  have hlf := HLF.out
                  revert q0 q1 q2 hlf
                  generalize hwf : ((wr2.setCell ⟨w.heap.size, 0, none⟩ (.int .i64 0)).setCell ⟨w.heap.size, 1, none⟩ (.int .i64 0)) = wf
                  intro q0 q1 q2 hlf
                  refine bodyPost_ret (v := .tuple #[.slice la l.length lc, .slice ua rs.length uc, .agg #[.int .i64 0, .int .i64 0]]) (by simp [results, Tryz.results7, go_sem, q0, q1]) rfl ?_
                  rw [hr.out]
                  exact ⟨_, _, rfl, q2, hlf.1, hlf.2⟩
end Go.Proofs.YtplbdlgmjehckadGreatDoor

