/-
  Lemmas for the claims of this seat: the program's functions walked, and plain laws. In this order: TpLawMedia.
-/
import Derived.Test.YtplbdlgmjehckadGreatDoorPk26
import Derived.Test.YtplbdlgmjehckadGreatDoorPkTpMediaFull27
import Derived.Test.YtplbdlgmjehckadGreatDoorPk23
namespace Go.Proofs.YtplbdlgmjehckadGreatDoor
open Go.RowKit
set_option linter.unusedVariables false
set_option linter.unusedSimpArgs false
set_option maxRecDepth 100000 in
set_option maxHeartbeats 6400000 in
theorem topMedia_any (a b c : B) (m : Int) (w : World) (hm : w.cell? ⟨0, 0, none⟩ = some (.int .i64 m)) (hla : a.length ≤ 9223372036854775807) (hlb : b.length ≤ 9223372036854775807) (hlc : c.length ≤ 9223372036854775807) :
    Calls Tryz.prog 3 #[.string (str a), .string (str b), .string (str c)] w fun e w' => e = .returned (.bool true) ∧ Kept (fun _ => False) w w' := by
  have HA := Lib.hid (aliveT_any w m hm)
  have HM := Lib.hid hm
  have HWA : Hid (∀ wx, Calls Tryz.prog 5 #[.string (str a)] wx fun e w' => ∃ q0 : Bool, e = .returned (.bool q0) ∧ (q0 = true → TopW a) ∧ Kept (fun _ => False) wx w') := Lib.hid (fun wx => topword_any a wx hla)
  have HWB : Hid (∀ wx, Calls Tryz.prog 5 #[.string (str b)] wx fun e w' => ∃ q0 : Bool, e = .returned (.bool q0) ∧ (q0 = true → TopW b) ∧ Kept (fun _ => False) wx w') := Lib.hid (fun wx => topword_any b wx hlb)
  have HWC : Hid (∀ wx, Calls Tryz.prog 5 #[.string (str c)] wx fun e w' => ∃ q0 : Bool, e = .returned (.bool q0) ∧ (q0 = true → TopW c) ∧ Kept (fun _ => False) wx w') := Lib.hid (fun wx => topword_any c wx hlc)
  clear hm
  go_enter Tryz.func3, Tryz.ntmps3
  go_wp2_with (go_at_call 4; refine HA.out.mono ?_; rintro e w1 ⟨rfl, hk1⟩)
  refine (HWA.out _).mono ?_
  rintro e w2 ⟨qa, rfl, hqa, hk2⟩
  have HK2 := Lib.hid (hk1.trans hk2)
  clear hk2 hk1
  cases qa with
  | false =>
    clear hqa
    go_wp2_with fail
    go_ret
    exact ⟨rfl, HK2.out⟩
  | true =>
    have HTA := Lib.hid (hqa rfl)
    clear hqa
    go_wp2_with fail
    refine (HWB.out _).mono ?_
    rintro e w3 ⟨qb, rfl, hqb, hk3⟩
    have HK3 := Lib.hid (HK2.out.trans hk3)
    clear hk3
    cases qb with
    | false =>
      clear hqb
      go_wp2_with fail
      go_ret
      exact ⟨rfl, HK3.out⟩
    | true =>
      have HTB := Lib.hid (hqb rfl)
      clear hqb
      go_wp2_with fail
      refine (HWC.out _).mono ?_
      rintro e w4 ⟨qc, rfl, hqc, hk4⟩
      have HK4 := Lib.hid (HK3.out.trans hk4)
      clear hk4
      cases qc with
      | false =>
        clear hqc
        go_wp2_with fail
        go_ret
        exact ⟨rfl, HK4.out⟩
      | true =>
        have HTC := Lib.hid (hqc rfl)
        clear hqc
        have h20a := HTA.out.len
        have h20b := HTB.out.len
        have h20c := HTC.out.len
        have HC1 : Hid (∀ wx, wx.cell? ⟨0, 0, none⟩ = some (.int .i64 m) → Calls Tryz.prog 6 #[.string (str (60 :: 115 :: 116 :: 121 :: 108 :: 101 :: 62 :: 112 :: 123 :: 99 :: 111 :: 108 :: 111 :: 114 :: 58 :: (a ++ 125 :: 112 :: 123 :: 115 :: 105 :: 122 :: 101 :: 58 :: (b ++ 125 :: 64 :: 109 :: 101 :: 100 :: 105 :: 97 :: 32 :: 119 :: 105 :: 100 :: 101 :: 123 :: 112 :: 123 :: 99 :: 111 :: 108 :: 111 :: 114 :: 58 :: (c ++ [125, 125, 60, 47, 115, 116, 121, 108, 101, 62, 60, 112, 62, 120, 60, 47, 112, 62])))))] wx fun e w' => ∃ t, e = .returned (.tuple #[.string (str t), .agg #[.int .i64 0, .int .i64 0]]) ∧ (∃ m qs n1, MediaOk a b c t m qs n1) ∧ Kept (fun _ => False) wx w') := Lib.hid (fun wx hw => by
          obtain ⟨l, rs, h1, h2⟩ := media_texts HTA.out HTB.out HTC.out
          exact fold_law _ m wx hw (by simp; omega) h1 h2)
        go_wp2_with fail
        refine (HC1.out _ (HK4.out.cell id HM.out)).mono ?_
        rintro e w7 ⟨t, rfl, ⟨ms, qs, n1, HOKt⟩, hk7⟩
        have HOK := Lib.hid HOKt
        have htl := parse_short HOKt.page
        have hms := HOKt.two
        have hqs := HOKt.rules
        have hkk := HK4.out.trans hk7
        obtain ⟨wb, HWB⟩ : ∃ x, Hid (w7.alloc (.cells #[.int .i64 0, .int .i64 0] 26 (0, 0)) = x) := ⟨_, rfl⟩
        have hkb : Kept (fun _ => False) w wb := by rw [← HWB.out]; exact hkk.alloc _
        have hb0 : wb.heap[w7.heap.size]? = some (.cells #[.int .i64 0, .int .i64 0] 26 (0, 0)) := by rw [← HWB.out]; exact newIn w7 _
        have HB0 := Lib.hid hb0
        have HKB := Lib.hid hkb
        have HRD : Hid (Calls Tryz.prog 7 #[.string (str t)] wb fun e w' => ∃ lv rv, e = .returned (.tuple #[lv, rv, .agg #[.int .i64 0, .int .i64 0]]) ∧ Kept (fun _ => False) wb w' ∧ NodesAt w' lv ms ∧ RulesAt w' rv qs) := Lib.hid (by
          have := read_any t m wb (hkb.cell id HM.out) (by omega)
          rw [HOK.out.read] at this
          exact this)
        clear hk7 hkk hkb hb0 HOKt
        go_upto_region 7 with fail
        rw [HWB.out]
        go_wp2_with fail
        refine HRD.out.mono ?_
        rintro e w8 ⟨lv, rv, rfl, hk8, hl8, hr8⟩
        obtain ⟨la, lc, rfl, hlc1, hlc2⟩ := hl8.form
        obtain ⟨ra, rc, rfl, hrc1, hrc2⟩ := NestAt.form hr8
        unfold maxLen at hlc2 hrc2
        obtain ⟨wc, HWC⟩ : ∃ x, Hid (w8.alloc (.cells #[.int .i64 0, .int .i64 0] 26 (0, 0)) = x) := ⟨_, rfl⟩
        have hkc : Kept (fun _ => False) w8 wc := by rw [← HWC.out]; exact (Kept.refl _ w8).alloc _
        have c0 : wc.cell? ⟨w8.heap.size, 0, none⟩ = some (.int .i64 0) := by rw [← HWC.out]; exact cellIn (newIn w8 _) 0 rfl
        have c1 : wc.cell? ⟨w7.heap.size, 0, none⟩ = some (.int .i64 0) := cellIn ((hk8.trans hkc).heap id HB0.out) 0 rfl
        have HL := Lib.hid (nodes_firm.kept hl8 hkc)
        have HRR := Lib.hid (rules_firm.kept hr8 hkc)
        have HKC := Lib.hid ((HKB.out.trans hk8).trans hkc)
        have hca : CaCtx ms qs := (read_lim HOK.out.read).ca (fun r h => h) (Nat.le_refl _)
        have HCA := Lib.hid hca
        rw [hms] at HL ⊢
        rw [hqs] at HRR ⊢
        clear hk8 hkc hl8 hr8 hca
        go_upto_region 8 with fail
        rw [HWC.out]
        go_wp2_with fail
        refine (styleT_any t ms 1 n1 HOK.out.page HOK.out.at1 m wc (HKC.out.cell id HM.out) (by omega)).mono ?_
        rintro e w9 ⟨rfl, hk9⟩
        have HK9 := Lib.hid (HKC.out.trans hk9)
        have HL9 := Lib.hid (nodes_firm.kept HL.out hk9)
        have HR9 := Lib.hid (rules_firm.kept HRR.out hk9)
        have HV1 : Hid (Calls Tryz.prog 9 #[.slice la 2 lc, .int .i64 1, .slice ra 2 rc, .slice none 0 0, .string (str colorName)] w9 fun e w' => e = .returned (.tuple #[.string (str a), .int .i64 0]) ∧ Kept (fun _ => False) w9 w') := Lib.hid (by
          have := value_any ms qs HCA.out [] colorName 1 (by omega) m w9 _ _ (.slice none 0 0) HL9.out HR9.out (RowsAt.nil _ _) (HK9.out.cell id HM.out)
          rw [HOK.out.far] at this
          exact this)
        rw [HOK.out.own]
        clear hk9 c0 c1
        unfold colorName at HV1
        go_wp2_with fail
        refine HV1.out.mono ?_
        rintro e w10 ⟨rfl, hk10⟩
        have HK10 := Lib.hid (HK9.out.trans hk10)
        have HL10 := Lib.hid (nodes_firm.kept HL9.out hk10)
        have HR10 := Lib.hid (rules_firm.kept HR9.out hk10)
        obtain ⟨wd, HWD⟩ : ∃ x, Hid (w10.alloc (.cells #[.string ⟨#[119, 105, 100, 101]⟩] 9 (0, 0)) = x) := ⟨_, rfl⟩
        have hkd : Kept (fun _ => False) w10 wd := by rw [← HWD.out]; exact (Kept.refl _ w10).alloc _
        have hwide : StrsAt wd (.slice (some ⟨w10.heap.size, 0, none⟩) 1 1) [[119, 105, 100, 101]] := by
          rw [← HWD.out]
          exact rows_fresh (newIn w10 _) rfl (by simp) rfl (by simp [maxLen])
        have HV2 : Hid (Calls Tryz.prog 9 #[.slice la 2 lc, .int .i64 1, .slice ra 2 rc, .slice (some ⟨w10.heap.size, 0, none⟩) 1 1, .string (str colorName)] wd fun e w' => e = .returned (.tuple #[.string (str c), .int .i64 0]) ∧ Kept (fun _ => False) wd w') := Lib.hid (by
          have := value_any ms qs HCA.out [[119, 105, 100, 101]] colorName 1 (by omega) m wd _ _ _ (nodes_firm.kept HL10.out hkd) (rules_firm.kept HR10.out hkd) hwide ((HK10.out.trans hkd).cell id HM.out)
          rw [HOK.out.near] at this
          exact this)
        have HKD := Lib.hid (HK10.out.trans hkd)
        unfold colorName at HV2
        clear hk10 hkd hwide
        go_wp2_with fail
        rw [HWD.out]
        refine HV2.out.mono ?_
        rintro e w11 ⟨rfl, hk11⟩
        have HK11 := Lib.hid (HKD.out.trans hk11)
        clear hk11
        go_wp2_with fail
        go_ret
        exact ⟨rfl, HK11.out⟩
end Go.Proofs.YtplbdlgmjehckadGreatDoor

