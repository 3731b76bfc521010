/-
  inklaw5.CascadeMedia: media that no rule names.
-/
import Derived.Test.YtplbdlgmjehckacDoorCaCore
import Derived.Test.YtplbdlgmjehckacDoorCaLaws
import Derived.Test.YtplbdlgmjehckacDoorCaSame
namespace Go.Proofs.YtplbdlgmjehckacDoor
open Go.RowKit
set_option linter.unusedVariables false
set_option linter.unusedSimpArgs false

def errOf : Ans (List PDecl) → Nat
  | .bad f => f.err
  | .ok _ => 0
def lookOf : Ans (List PDecl) → List PDecl
  | .bad _ => []
  | .ok l => l
theorem dc_any {w : World} {r : Ans (List PDecl)} {e : Ending} {w' : World} (h : DcEnds w r e w') : ∃ v, e = .returned (.tuple #[v, .int .i64 (errOf r : Int)]) ∧ Kept (fun _ => False) w w' ∧ DeclsAt w' v (lookOf r) := by
  cases r with
  | bad f => obtain ⟨h1, h2, _⟩ := h; exact ⟨_, h1, h2, RowsAt.nil _ _⟩
  | ok l => obtain ⟨v, h1, h2, h3, _⟩ := h; exact ⟨v, h1, h2, h3⟩
theorem strs_one (ms : List B) : ∀ u ∈ (ms.map fun x => [Value.string (str x)]).flatten, u.oneCell' = true := by
  intro u hu
  simp only [List.mem_flatten, List.mem_map] at hu
  obtain ⟨_, ⟨x, _, rfl⟩, hu⟩ := hu
  simp only [List.mem_singleton] at hu
  subst hu; rfl
theorem strs_len (ms : List B) : ∀ r ∈ (ms.map fun x => [Value.string (str x)]), r.length = 1 := by
  intro r hr
  obtain ⟨x, _, rfl⟩ := List.mem_map.1 hr; rfl

set_option maxRecDepth 100000 in
set_option maxHeartbeats 6400000 in
theorem media5_any (ns : List PNode) (rs : List PRule) (hc : CaCtx ns rs) (media : List B) (hml : media.length ≤ 1048576) (more : B) (k : Int) (hk : -9223372036854775808 ≤ k ∧ k ≤ 9223372036854775807) (m : Int) (w : World) (v rv mv : Value) (hv : NodesAt w v ns) (hr : RulesAt w rv rs) (hmv : StrsAt w mv media) (hm : w.cell? ⟨0, 0, none⟩ = some (.int .i64 m)) :
    Calls Tryd.prog 3 #[v, .int .i64 k, rv, mv, .string (str more)] w fun e w' => e = .returned (.bool true) ∧ Kept (fun _ => False) w w' := by
  obtain ⟨na, ncap, rfl, hnc1, hnc2⟩ := hv.form
  obtain ⟨ra, rcap, rfl, hrc1, hrc2⟩ := NestAt.form hr
  obtain ⟨ma, mcap, rfl, hmc1, hmc2⟩ := StrsAt.form hmv
  unfold maxLen at hnc2 hrc2 hmc2
  have HAL := Lib.hid (alive5_any w m hm)
  have hfr := hc.few
  have HCC := Lib.hid hc
  have HV := Lib.hid hv
  have HRS := Lib.hid hr
  have HMV := Lib.hid hmv
  have HM := Lib.hid hm
  clear hc hv hr hmv hm
  go_enter Tryd.func3, Tryd.ntmps3
  go_wp2_with fail
  refine HAL.out.mono ?_
  rintro e w1 ⟨rfl, hk1⟩
  have HK1 := Lib.hid hk1
  clear hk1
  go_wp2_with fail
  go_loopw [21] (fun c wr => ∃ i : Nat, i ≤ rs.length ∧ c = .int .i64 (i : Int) ∧ Hid (Kept (fun _ => False) w1 wr) ∧ Hid (∀ r ∈ rs.take i, r.media ≠ more)) (fun c _ => rs.length - (intOf c).toNat)
  case atStart => exact ⟨0, by omega, rfl, Lib.hid (Kept.refl _ _), Lib.hid (by simp)⟩
  case round =>
    obtain ⟨i, hi, rfl, HK, HA⟩ := hrel
    obtain ⟨wr0, hwr0⟩ : ∃ x, x = wr := ⟨_, rfl⟩
    subst hwr0
    by_cases hlt : i < rs.length
    · have hx := List.getElem?_eq_getElem hlt
      generalize hgx : rs[i] = r at hx
      clear hgx
      obtain ⟨b, o, u, rfl, hcs, hru⟩ := NestAt.at (rules_firm.kept HRS.out (HK1.out.trans HK.out)) hx
      obtain ⟨sv, dv, rfl, hss, hds⟩ := hru
      obtain ⟨sa, sc, rfl, hsc1, hsc2⟩ := NestAt.form hss
      obtain ⟨da, dc, rfl, hdc1, hdc2⟩ := DeclsAt.form hds
      unfold maxLen at hsc2 hdc2
      have c0 : wr0.cell? ⟨b, o + i * 5, none⟩ = some (.string (str r.media)) := hcs 0 _ rfl
      have c1 : wr0.cell? ⟨b, o + i * 5 + 1, none⟩ = some (.slice sa r.sels.length sc) := hcs 1 _ rfl
      have c2 : wr0.cell? ⟨b, o + i * 5 + 2, none⟩ = some (.slice da r.decls.length dc) := hcs 2 _ rfl
      have c3 : wr0.cell? ⟨b, o + i * 5 + 3, none⟩ = some (.int .i64 r.lo) := hcs 3 _ rfl
      have c4 : wr0.cell? ⟨b, o + i * 5 + 4, none⟩ = some (.int .i64 r.hi) := hcs 4 _ rfl
      have HX := Lib.hid hx
      clear hcs hss hds hx
      go_upto_region 6 with fail
      obtain ⟨wa, HWA⟩ : ∃ x, Hid (wr0.alloc (.cells #[.string (str r.media), (.slice sa r.sels.length sc), (.slice da r.decls.length dc), .int .i64 r.lo, .int .i64 r.hi] 31 (0, 0)) = x) := ⟨_, rfl⟩
      have b0 : wa.cell? ⟨wr0.heap.size, 0, none⟩ = some (.string (str r.media)) := by rw [← HWA.out]; exact cellIn (newIn wr0 _) 0 rfl
      have HKA : Hid (Kept (fun _ => False) w1 wa) := Lib.hid (by rw [← HWA.out]; exact HK.out.alloc _)
      rw [HWA.out]
      clear c0 c1 c2 c3 c4
      cases he : (r.media == more) with
      | true =>
        go_wp2_with fail
        go_ret
        exact ⟨rfl, HK1.out.trans HKA.out⟩
      | false =>
        have HN : Hid (∀ r ∈ rs.take (i + 1), r.media ≠ more) := Lib.hid (by
          intro q hq
          rw [List.take_add_one, HX.out, Option.toList_some] at hq
          rcases List.mem_append.1 hq with hq | hq
          · exact HA.out q hq
          · simp only [List.mem_singleton] at hq
            subst hq
            simpa using he)
        go_wp2_with fail
        go_roundw
        case measure => simp [intOf]; omega
        case rel => exact ⟨i + 1, by omega, by go_num, HKA, HN⟩
    · obtain rfl : i = rs.length := by omega
      have hall := HA.out
      rw [List.take_length] at hall
      have hD := declared_media (l := ns) (k := k) (m := media) hall
      obtain ⟨D, HD⟩ : ∃ x, Hid (cDeclared ns k rs media = x) := ⟨_, rfl⟩
      have HK2 := Lib.hid (HK1.out.trans HK.out)
      have HDC := declared_any ns rs HCC.out media k hk m wr0 _ _ _ (nodes_firm.kept HV.out HK2.out) (rules_firm.kept HRS.out HK2.out) (RowsAt.below HMV.out HK2.out.below) (HK2.out.cell id HM.out)
      rw [HD.out] at HDC hD
      replace HDC := Lib.hid HDC
      have HD2 := Lib.hid hD
      clear hall hD
      go_wp2_with fail
      refine HDC.out.mono ?_
      intro e w2 he2
      obtain ⟨v2, rfl, hk2, hl2⟩ := dc_any he2
      have HK3 := Lib.hid (HK2.out.trans hk2)
      have HL2 := Lib.hid hl2
      obtain ⟨l2a, l2c, rfl, _, _⟩ := DeclsAt.form hl2
      obtain ⟨i0, hi0, hz0, hz1, hz2⟩ := info_parts info_str
      have hsz := HK3.out.size
      obtain ⟨wd, HWD⟩ : ∃ x, Hid (w2.alloc (.cells #[] 9 (0, 0)) = x) := ⟨_, rfl⟩
      have hkd : Kept (fun _ => False) w2 wd := by rw [← HWD.out]; exact (Kept.refl _ w2).alloc _
      have hod : wd.ownsRow w2.heap.size 9 1 (.slice (some ⟨w2.heap.size, 0, none⟩) 0 0) 0 [] := by rw [← HWD.out]; exact owns_built w2 _ _ _ (Nat.le_refl _)
      obtain ⟨a5, c5, w5, hr5, ho5, k5, _⟩ := append_any (P := Tryd.prog) wd 24 24 w2.heap.size 9 i0 _ 1 16 Tryd.underlying24 hi0 hz0 hz1 hz2 rfl (by omega) _ 0 0 [] hod ma media.length mcap _ (RowsAt.below HMV.out (HK3.out.trans hkd).below) (strs_len media) (strs_one media) (by unfold maxLen; omega) (by omega) hkd.size
      rw [Nat.zero_add] at hr5 ho5
      have hk5 : Kept (fun _ => False) w2 w5 := hkd.trans' k5 (fun q hq hx => by simp only [Value.ownBlock, Option.some.injEq] at hx; omega)
      obtain ⟨we, HWE⟩ : ∃ x, Hid (w5.alloc (.cells #[.string (str more)] 9 (0, 0)) = x) := ⟨_, rfl⟩
      have hke : Kept (fun _ => False) w5 we := by rw [← HWE.out]; exact (Kept.refl _ w5).alloc _
      have hbe : we.heap[w5.heap.size]? = some (.cells #[.string (str more)] 9 (0, 0)) := by rw [← HWE.out]; exact newIn w5 _
      have hoe : we.ownsRow w2.heap.size 9 1 (.slice a5 media.length c5) media.length ([] ++ (media.map fun x => [Value.string (str x)]).flatten) := by rw [← HWE.out]; exact ho5.alloc _
      obtain ⟨a6, c6, w6, hr6, ho6, k6, _⟩ := append_any (P := Tryd.prog) we 24 24 w2.heap.size 9 i0 _ 1 16 Tryd.underlying24 hi0 hz0 hz1 hz2 rfl (by omega) a5 media.length c5 _ hoe (some ⟨w5.heap.size, 0, none⟩) 1 1 ([more].map fun x => [Value.string (str x)]) (rows_fresh hbe rfl (strs_len _) rfl (by simp [maxLen])) (strs_len _) (strs_one _) (by unfold maxLen; omega) (by omega) (by have := hk5.size; have := hke.size; omega)
      have hk6 : Kept (fun _ => False) w2 w6 := (hk5.trans hke).trans' k6 (fun q hq hx => by have := (hoe.lt q hx).1; omega)
      have hst6 : StrsAt w6 (.slice a6 (media.length + 1) c6) (media ++ [more]) := by
        refine rowsAt_of_owns (base := w2.heap.size) (e := 9) (n := media.length + 1) (strs_len _) (by simp) ?_
        simpa using ho6
      have HK6 := Lib.hid (HK3.out.trans hk6)
      have HL6 := Lib.hid (RowsAt.below HL2.out hk6.below)
      have HDC6 := declared_any ns rs HCC.out (media ++ [more]) k hk m w6 _ _ _ (nodes_firm.kept HV.out HK6.out) (rules_firm.kept HRS.out HK6.out) hst6 (HK6.out.cell id HM.out)
      rw [← HD2.out] at HDC6
      replace HDC6 := Lib.hid HDC6
      rw [← HWD.out] at hr5
      rw [← HWE.out] at hr6
      have HR5 := Lib.hid hr5
      have HR6 := Lib.hid hr6
      clear hod hr5 ho5 k5 hk5 hke hbe hoe hr6 ho6 k6 hk6 hst6 hkd hl2 hk2 he2
      go_wp2_with (at_builtin; first | (refine wpList_append_eq (by rfl) _ _ _ rfl _ _ _ rfl rfl _ HR6.out ?_) | (refine wpList_append_eq (by rfl) _ _ _ rfl _ _ _ rfl rfl _ HR5.out ?_))
      refine HDC6.out.mono ?_
      intro e w7 he7
      obtain ⟨v7, rfl, hk7, hl7⟩ := dc_any he7
      have HSL := sameLook_any (lookOf D) w7 _ v7 (RowsAt.below HL6.out hk7.below) hl7
      replace HSL := Lib.hid HSL
      have HK7 := Lib.hid (HK6.out.trans hk7)
      clear hl7 hk7 he7
      go_wp2_with (go_at_call 7; refine HSL.out.mono ?_; rintro e w8 ⟨rfl, hk8⟩)
      go_ret
      exact ⟨rfl, HK7.out.trans hk8⟩
end Go.Proofs.YtplbdlgmjehckacDoor
