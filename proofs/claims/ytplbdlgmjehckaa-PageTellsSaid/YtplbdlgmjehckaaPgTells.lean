/-
  inklaw1.PageTells: the law.
-/
import Derived.Test.YtplbdlgmjehckaaRfParse
import Derived.Test.YtplbdlgmjehckaaRfNamed
import Derived.Test.YtplbdlgmjehckaaR3Get
import Derived.Test.YtplbdlgmjehckaaGetAhead
import Derived.Test.YtplbdlgmjehckaaSameN
namespace Go.Proofs.Ytplbdlgmjehckaa
open Go.RowKit
set_option linter.unusedVariables false
set_option linter.unusedSimpArgs false

theorem nodes_nil (w : World) : NodesAt w (.slice none 0 0) [] := ⟨[], rfl, RowsAt.nil _ _, fun i n av hn => by simp at hn⟩
/-- the two parsers, in one form -/
theorem both_parse (s : B) (hs : s.length ≤ 9223372036854775807) : ∃ (ns : List PNode) (fe fp : Int),
    (∀ (w : World) (m : Int), w.cell? ⟨0, 0, none⟩ = some (.int .i64 m) → Calls Try.prog 8 #[.string (str s)] w fun e w' => ∃ v, e = .returned (.tuple #[v, .agg #[.int .i64 fe, .int .i64 fp]]) ∧ Kept (fun _ => False) w w' ∧ NodesAt w' v ns) ∧
    (∀ (w : World), 0 < w.heap.size → Calls Try.prog 9 #[.string (str s)] w fun e w' => ∃ v, e = .returned (.tuple #[v, .agg #[.int .i64 fe, .int .i64 fp]]) ∧ Kept (fun _ => False) w w' ∧ NodesAt w' v ns) := by
  cases hp : pParse s with
  | bad f =>
    refine ⟨[], f.err, f.pos, fun w m hm => ?_, fun w hw => ?_⟩
    · refine (parse_any s w m hm hs).mono fun e w' hh => ?_
      rw [hp] at hh
      exact ⟨_, hh.1, Kept.of_below hh.2, nodes_nil _⟩
    · refine (rparse_any s w hw hs).mono fun e w' hh => ?_
      rw [hp] at hh
      exact ⟨_, hh.1, Kept.of_below hh.2, nodes_nil _⟩
  | ok ns =>
    refine ⟨ns, 0, 0, fun w m hm => ?_, fun w hw => ?_⟩
    · refine (parse_any s w m hm hs).mono fun e w' hh => ?_
      rw [hp] at hh
      obtain ⟨v, rfl, hb, hn⟩ := hh
      exact ⟨v, rfl, Kept.of_below hb, hn⟩
    · refine (rparse_any s w hw hs).mono fun e w' hh => ?_
      rw [hp] at hh
      obtain ⟨v, rfl, hb, hn⟩ := hh
      exact ⟨v, rfl, Kept.of_below hb, hn⟩

set_option maxRecDepth 100000 in
set_option maxHeartbeats 3200000 in
theorem pageTells_any (s name : B) (k : Int) (m : Int) (w : World) (hm : w.cell? ⟨0, 0, none⟩ = some (.int .i64 m)) (hs : s.length ≤ 9223372036854775807) (hn : name.length ≤ 9223372036854775807)
    (hk : -9223372036854775808 ≤ k ∧ k ≤ 9223372036854775807) :
    Calls Try.prog 3 #[.string (str s), .string (str name), .int .i64 k] w fun e w' => e = .returned (.bool true) ∧ Kept (fun _ => False) w w' := by
  have h0 : 0 < w.heap.size := World.block_lt_of_cell? w _ hm
  obtain ⟨ns, fe, fp, hp, hq⟩ := both_parse s hs
  have HP := Lib.hid (hp w m hm)
  have HQ := Lib.hid hq
  have HK := Lib.hid hk
  have HN := Lib.hid hn
  have H0 := Lib.hid h0
  obtain ⟨nb, HNB⟩ : ∃ x, Hid (named name = x) := ⟨_, rfl⟩
  obtain ⟨pa, HPA⟩ : ∃ x, Hid (pAhead ns k = x) := ⟨_, rfl⟩
  clear hp hq hm hk hn h0
  go_enter Try.func3, Try.ntmps3
  go_wp2_with fail
  refine HP.out.mono ?_
  rintro e w1 ⟨va, rfl, hk1, hn1⟩
  obtain ⟨aa, ca, rfl, hca1, hca2⟩ := hn1.form
  unfold maxLen at hca2
  obtain ⟨w2, HW2⟩ : ∃ x, Hid (w1.alloc (.cells #[.int .i64 fe, .int .i64 fp] 25 (0, 0)) = x) := ⟨_, rfl⟩
  have hk2 : Kept (fun _ => False) w1 w2 := by rw [← HW2.out]; exact (Kept.refl _ w1).alloc _
  obtain ⟨f1, HF1⟩ : ∃ x, Hid (w1.heap.size = x) := ⟨_, rfl⟩
  have HB2 : Hid (w2.heap[f1]? = some (.cells #[.int .i64 fe, .int .i64 fp] 25 (0, 0))) := Lib.hid (by rw [← HW2.out, ← HF1.out]; exact newIn w1 _)
  have HN2 := Lib.hid (hn1.kept hk2.below)
  have HK2 := Lib.hid (hk1.trans hk2)
  clear hk1 hn1 hk2
  go_upto_region 2 with fail
  rw [HW2.out, HF1.out]
  go_wp2_with fail
  refine (HQ.out w2 (Nat.lt_of_lt_of_le H0.out HK2.out.size)).mono ?_
  rintro e w3 ⟨vb, rfl, hk3, hn3⟩
  obtain ⟨ab, cb, rfl, hcb1, hcb2⟩ := hn3.form
  unfold maxLen at hcb2
  obtain ⟨w4, HW4⟩ : ∃ x, Hid (w3.alloc (.cells #[.int .i64 fe, .int .i64 fp] 25 (0, 0)) = x) := ⟨_, rfl⟩
  have hk4 : Kept (fun _ => False) w3 w4 := by rw [← HW4.out]; exact (Kept.refl _ w3).alloc _
  obtain ⟨f2, HF2⟩ : ∃ x, Hid (w3.heap.size = x) := ⟨_, rfl⟩
  have hb4 : w4.heap[f2]? = some (.cells #[.int .i64 fe, .int .i64 fp] 25 (0, 0)) := by rw [← HW4.out, ← HF2.out]; exact newIn w3 _
  have HA4 := Lib.hid (HN2.out.kept (hk3.trans hk4).below)
  have HB4 := Lib.hid (hn3.kept hk4.below)
  have HK4 := Lib.hid ((HK2.out.trans hk3).trans hk4)
  have hb4' := (hk3.trans hk4).heap id HB2.out
  have y0 := cellIn hb4 0 rfl
  have y1 := cellIn hb4 1 rfl
  have x0 := cellIn hb4' 0 rfl
  have x1 := cellIn hb4' 1 rfl
  clear hk3 hn3 hk4 hb4 hb4'
  go_upto_region 3 with fail
  rw [HW4.out, HF2.out]
  go_wp2_with fail
  refine (same_any w4 _ _ ns HA4.out HB4.out).mono ?_
  rintro e w5 ⟨rfl, hq5⟩
  have HK5 := Lib.hid (HK4.out.trans (hq5.kept _))
  have HB5 := Lib.hid (HB4.out.quiet hq5)
  clear hq5 x0 x1 y0 y1
  go_wp2_with fail
  refine (named_any w5 name).mono ?_
  rintro e w6 ⟨rfl, rfl⟩
  rw [HNB.out]
  go_wp2_with fail
  refine (rnamed_any w6 name HN.out).mono ?_
  rintro e w7 ⟨rfl, hk7⟩
  have HK7 := Lib.hid (HK5.out.trans hk7)
  have HB7 := Lib.hid (HB5.out.kept hk7.below)
  rw [HNB.out]
  clear hk7
  go_wp2_with fail
  refine (ahead_any w7 _ ns k HB7.out HK.out).mono ?_
  rintro e w8 ⟨rfl, hq8⟩
  have HK8 := Lib.hid (HK7.out.trans (hq8.kept _))
  have HB8 := Lib.hid (HB7.out.quiet hq8)
  rw [HPA.out]
  clear hq8
  go_wp2_with fail
  refine (rahead_any w8 _ ns k HB8.out HK.out).mono ?_
  rintro e w9 ⟨rfl, hq9⟩
  have HK9 := Lib.hid (HK8.out.trans (hq9.kept _))
  have HB9 := Lib.hid (HB8.out.quiet hq9)
  rw [HPA.out]
  clear hq9
  go_wp2_with fail
  go_loopw [54] (fun c wr => ∃ i : Nat, i ≤ ns.length ∧ c = .int .i64 (i : Int) ∧ Hid (Kept (fun _ => False) w9 wr)) (fun c _ => ns.length - (intOf c).toNat)
  case atStart => exact ⟨0, by omega, rfl, Lib.hid (Kept.refl _ _)⟩
  case round =>
    obtain ⟨i, hi, rfl, HKR⟩ := hrel
    obtain ⟨wr0, hwr0⟩ : ∃ x, x = wr := ⟨_, rfl⟩
    subst hwr0
    by_cases hlt : i < ns.length
    · have hx := List.getElem?_eq_getElem hlt
      generalize hgx : ns[i] = x at hx
      clear hgx
      obtain ⟨b, off, av, rfl, g0, g1, g2, g3, g4, g5, hav⟩ := (HB9.out.kept HKR.out.below).at hx
      obtain ⟨nm, par, al, ne, i1, i2⟩ := x
      simp only at *
      obtain ⟨a2, cap2, rfl, hle2, hcap2⟩ := hav.form
      unfold maxLen at hcap2
      obtain ⟨wv, HWV⟩ : ∃ z, Hid (wr0.alloc (.cells #[.string (str nm), .int .i64 par, .slice a2 al.length cap2, .int .i64 ne, .int .i64 i1, .int .i64 i2] 35 (0, 0)) = z) := ⟨_, Lib.hid rfl⟩
      obtain ⟨nd, HND⟩ : ∃ z, Hid (wr0.heap.size = z) := ⟨_, Lib.hid rfl⟩
      have hkv : Kept (fun _ => False) wr0 wv := by rw [← HWV.out]; exact (Kept.refl _ wr0).alloc _
      have HV : Hid (wv.heap[nd]? = some (.cells #[.string (str nm), .int .i64 par, .slice a2 al.length cap2, .int .i64 ne, .int .i64 i1, .int .i64 i2] 35 (0, 0))) := Lib.hid (by rw [← HWV.out, ← HND.out]; exact newIn wr0 _)
      have HAV := Lib.hid (hav.below hkv.below)
      have HKV := Lib.hid (HKR.out.trans hkv)
      go_upto_region 8 with fail
      rw [HWV.out, HND.out]
      clear hkv hav g0 g1 g2 g3 g4 g5 hx
      have v0 := cellIn HV.out 0 rfl
      have v1 := cellIn HV.out 1 rfl
      have v2 := cellIn HV.out 2 rfl
      have v3 := cellIn HV.out 3 rfl
      have v4 := cellIn HV.out 4 rfl
      have v5 := cellIn HV.out 5 rfl
      obtain ⟨gx, gy, HG⟩ : ∃ x y, Hid (pGet al name = (x, y)) := ⟨_, _, Lib.hid rfl⟩
      go_wp2_with fail
      refine (get_any wv _ ⟨nm, par, al, ne, i1, i2⟩ name HAV.out).mono ?_
      rintro e w10 ⟨rfl, hb10⟩
      simp only [HG.out]
      have hv10 := (Kept.of_below (S := fun _ => False) hb10).heap id HV.out
      have HAV2 := Lib.hid (HAV.out.below hb10)
      have HKV2 := Lib.hid (HKV.out.trans (Kept.of_below hb10))
      clear v0 v1 v2 v3 v4 v5 hb10
      have v0 := cellIn hv10 0 rfl
      have v1 := cellIn hv10 1 rfl
      have v2 := cellIn hv10 2 rfl
      have v3 := cellIn hv10 3 rfl
      have v4 := cellIn hv10 4 rfl
      have v5 := cellIn hv10 5 rfl
      clear hv10
      go_wp2_with fail
      refine (rget_any w10 _ ⟨nm, par, al, ne, i1, i2⟩ name HAV2.out).mono ?_
      rintro e w11 ⟨rfl, hb11⟩
      simp only [HG.out]
      have HKV3 := Lib.hid (HKV2.out.trans (hb11))
      clear v0 v1 v2 v3 v4 v5 hb11
      go_wp2_with fail
      go_roundw
      case measure => simp [intOf]; omega
      case rel => exact ⟨i + 1, by omega, by go_num, HKV3⟩
    · obtain rfl : i = ns.length := by omega
      go_wp2_with fail
      go_ret
      exact ⟨rfl, HK9.out.trans HKR.out⟩
end Go.Proofs.Ytplbdlgmjehckaa
