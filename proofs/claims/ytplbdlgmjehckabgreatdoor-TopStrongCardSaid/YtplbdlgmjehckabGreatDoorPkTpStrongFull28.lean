/-
 Lemmas for the claims of this seat: the program's functions walked, and plain laws. In this order: TpStrongW TpLawStrong.
-/
import Derived.Test.YtplbdlgmjehckabGreatDoorPk26
import Derived.Test.YtplbdlgmjehckabGreatDoorPkTpStrongFull27
namespace Go.Proofs.YtplbdlgmjehckabGreatDoor
open Go.RowKit
set_option linter.unusedVariables false
set_option linter.unusedSimpArgs false
set_option maxRecDepth 100000 in
set_option maxHeartbeats 1600000 in
theorem strongOf_any (sheet own v X : B) (hX : X = 60 :: 115 :: 116 :: 121 :: 108 :: 101 :: 62 :: (sheet ++ 60 :: 47 :: 115 :: 116 :: 121 :: 108 :: 101 :: 62 :: 60 :: 112 :: 32 :: 115 :: 116 :: 121 :: 108 :: 101 :: 61 :: 34 :: (own ++ [34, 62, 120, 60, 47, 112, 62])))
  (h1 : sheet.length ≤ 1000) (h2 : own.length ≤ 1000) {l : List PNode} {rules : List PRule} (h : fRead X = .ok (l, rules)) (hf : ∀ st, IsStays l rules st → ∃ t, fFold X l rules st = .ok t ∧ Second v t) (m : Int) (w : World) (hm : w.cell? ⟨0, 0, none⟩ = some (.int .i64 m)) :
  Calls Tryz.prog 10 #[.string (str sheet), .string (str own)] w fun e w' => e = .returned (.string (str v)) ∧ Kept (fun _ => False) w w' := by
 have HC := fold_law X m w hm (by rw [hX]; simp; omega) h hf
 rw [hX] at HC
 replace HC := Lib.hid HC
 have HM := Lib.hid hm
 have e1 : (9223372036854775807 < 7 + sheet.length) = False := by simp; omega
 have e2 : (9223372036854775807 < 7 + sheet.length + 18) = False := by simp; omega
 have e3 : (9223372036854775807 < 7 + sheet.length + 18 + own.length) = False := by simp; omega
 have e4 : (9223372036854775807 < 7 + sheet.length + 18 + own.length + 7) = False := by simp; omega
 clear hX h hf hm
 go_enter Tryz.func10, Tryz.ntmps10
 go_wp2_with fail
 refine HC.out.mono ?_
 rintro e w1 ⟨t, rfl, ⟨ht, ms, n1, hp, hn, hv⟩, hk1⟩
 obtain ⟨wb, HWB⟩ : ∃ x, Hid (w1.alloc (.cells #[.int .i64 0, .int .i64 0] 29 (0, 0)) = x) := ⟨_, rfl⟩
 have hkb : Kept (fun _ => False) w wb := by rw [← HWB.out]; exact hk1.alloc _
 have hb0 : wb.heap[w1.heap.size]? = some (.cells #[.int .i64 0, .int .i64 0] 29 (0, 0)) := by rw [← HWB.out]; exact newIn w1 _
 have HB0 := Lib.hid hb0
 have HS := styleT_any t ms 1 n1 hp hn m wb (hkb.cell id HM.out) (by omega)
 rw [hv] at HS
 replace HS := Lib.hid HS
 have HKB := Lib.hid hkb
 clear hk1 hkb hb0 hp hn hv ht
 go_upto_region 2 with fail
 rw [HWB.out]
 go_wp2_with fail
 refine HS.out.mono ?_
 rintro e w2 ⟨rfl, hk2⟩
 have d0 : w2.cell? ⟨w1.heap.size, 0, none⟩ = some (.int .i64 0) := cellIn (hk2.heap id HB0.out) 0 rfl
 have HK2 := Lib.hid (HKB.out.trans hk2)
 clear hk2
 go_wp2_with fail
 go_ret
 exact ⟨rfl, HK2.out⟩
set_option maxRecDepth 100000 in
set_option maxHeartbeats 3200000 in
theorem topStrong_any (a b : B) (m : Int) (w : World) (hm : w.cell? ⟨0, 0, none⟩ = some (.int .i64 m)) (hla : a.length ≤ 9223372036854775807) (hlb : b.length ≤ 9223372036854775807) :
  Calls Tryz.prog 4 #[.string (str a), .string (str b)] w fun e w' => e = .returned (.bool true) ∧ Kept (fun _ => False) w w' := by
 have HA := Lib.hid (aliveT_any w m hm)
 have HM := Lib.hid hm
 have HWA : Hid (∀ wx, Calls Tryz.prog 7 #[.string (str a)] wx fun e w' => ∃ b : Bool, e = .returned (.bool b) ∧ (b = true → TopW a) ∧ Kept (fun _ => False) wx w') := Lib.hid (fun wx => topword_any a wx hla)
 have HWB : Hid (∀ wx, Calls Tryz.prog 7 #[.string (str b)] wx fun e w' => ∃ q : Bool, e = .returned (.bool q) ∧ (q = true → TopW b) ∧ Kept (fun _ => False) wx w') := Lib.hid (fun wx => topword_any b wx hlb)
 clear hm
 go_enter Tryz.func4, Tryz.ntmps4
 go_wp2_with (go_at_call 6; refine HA.out.mono ?_; rintro e w1 ⟨rfl, hk1⟩)
 refine (HWA.out _).mono ?_
 rintro e w2 ⟨qa, rfl, hqa, hk2⟩
 cases qa with
 | false =>
  have HK := Lib.hid (hk1.trans hk2)
  clear hk1 hk2 hqa
  go_wp2_with fail
  go_ret
  exact ⟨rfl, HK.out⟩
 | true =>
  have HTA := Lib.hid (hqa rfl)
  have HK2 := Lib.hid (hk1.trans hk2)
  clear hk1 hk2 hqa
  go_wp2_with fail
  refine (HWB.out _).mono ?_
  rintro e w3 ⟨qb, rfl, hqb, hk3⟩
  cases qb with
  | false =>
   have HK := Lib.hid (HK2.out.trans hk3)
   clear hk3 hqb
   go_wp2_with fail
   go_ret
   exact ⟨rfl, HK.out⟩
  | true =>
   have HTB := Lib.hid (hqb rfl)
   have HK3 := Lib.hid (HK2.out.trans hk3)
   have h20 := HTA.out.len
   have h21 := HTB.out.len
   have HC1 : Hid (∀ wx, wx.cell? ⟨0, 0, none⟩ = some (.int .i64 m) → Calls Tryz.prog 10 #[.string (str (112 :: 123 :: 99 :: 111 :: 108 :: 111 :: 114 :: 58 :: (a ++ [125]))), .string (str (99 :: 111 :: 108 :: 111 :: 114 :: 58 :: b))] wx fun e w' => e = .returned (.string (str (99 :: 111 :: 108 :: 111 :: 114 :: 58 :: 32 :: b))) ∧ Kept (fun _ => False) wx w') := Lib.hid (fun wx hw => by
    obtain ⟨h1, h2⟩ := top_strong1 HTA.out HTB.out rfl
    refine strongOf_any _ _ _ _ (by simp [strongT, textP, openText, closeText, attrsText, attrText, styleName, textIn, rul, In1.text, ruleText, declText, colorName]) (by simp; omega) (by simp; omega) h1 (fun st S => ?_) m wx hw
    obtain ⟨t, ms, n1, g1, g2, _, g4, g5⟩ := h2 st S
    exact ⟨t, g1, parse_short g2, ms, n1, g2, g4, by rw [g5]; simp [declTextB, colorName]⟩)
   have HC2 : Hid (∀ wx, wx.cell? ⟨0, 0, none⟩ = some (.int .i64 m) → Calls Tryz.prog 10 #[.string (str (112 :: 123 :: 99 :: 111 :: 108 :: 111 :: 114 :: 58 :: (a ++ [32, 33, 105, 109, 112, 111, 114, 116, 97, 110, 116, 125]))), .string (str (99 :: 111 :: 108 :: 111 :: 114 :: 58 :: b))] wx fun e w' => e = .returned (.string (str (99 :: 111 :: 108 :: 111 :: 114 :: 58 :: 32 :: (a ++ [32, 33, 105, 109, 112, 111, 114, 116, 97, 110, 116])))) ∧ Kept (fun _ => False) wx w') := Lib.hid (fun wx hw => by
    obtain ⟨h1, h2⟩ := top_strong2 HTA.out HTB.out rfl
    refine strongOf_any _ _ _ _ (by simp [strongT, textP, openText, closeText, attrsText, attrText, styleName, textIn, rul, In1.text, ruleText, declText, colorName, bang, importantWord]) (by simp; omega) (by simp; omega) h1 (fun st S => ?_) m wx hw
    obtain ⟨t, ms, n1, g1, g2, _, g4, g5⟩ := h2 st S
    exact ⟨t, g1, parse_short g2, ms, n1, g2, g4, by rw [g5]; simp [strongB, colorName, importantWord]⟩)
   have HC3 : Hid (∀ wx, wx.cell? ⟨0, 0, none⟩ = some (.int .i64 m) → Calls Tryz.prog 10 #[.string (str (35 :: 122 :: 44 :: 112 :: 123 :: 99 :: 111 :: 108 :: 111 :: 114 :: 58 :: (a ++ [32, 33, 105, 109, 112, 111, 114, 116, 97, 110, 116, 125]))), .string (str (99 :: 111 :: 108 :: 111 :: 114 :: 58 :: (b ++ [33, 105, 109, 112, 111, 114, 116, 97, 110, 116])))] wx fun e w' => e = .returned (.string (str (99 :: 111 :: 108 :: 111 :: 114 :: 58 :: 32 :: (b ++ [32, 33, 105, 109, 112, 111, 114, 116, 97, 110, 116])))) ∧ Kept (fun _ => False) wx w') := Lib.hid (fun wx hw => by
    obtain ⟨h1, h2⟩ := top_strong3 HTA.out HTB.out rfl
    refine strongOf_any _ _ _ _ (by simp [strongT, textP, openText, closeText, attrsText, attrText, styleName, textIn, rul, In1.text, ruleText, declText, colorName, bang, importantWord]) (by simp; omega) (by simp; omega) h1 (fun st S => ?_) m wx hw
    obtain ⟨t, ms, n1, g1, g2, _, g4, g5⟩ := h2 st S
    exact ⟨t, g1, parse_short g2, ms, n1, g2, g4, by rw [g5]; simp [strongB, colorName, importantWord]⟩)
   clear hk3 hqb
   go_wp2_with fail
   refine (HC1.out _ (HK3.out.cell id HM.out)).mono ?_
   rintro e w4 ⟨rfl, hk4⟩
   have HK4 := Lib.hid (HK3.out.trans hk4)
   clear hk4
   go_wp2_with fail
   refine (HC2.out _ (HK4.out.cell id HM.out)).mono ?_
   rintro e w5 ⟨rfl, hk5⟩
   have HK5 := Lib.hid (HK4.out.trans hk5)
   clear hk5
   go_wp2_with fail
   refine (HC3.out _ (HK5.out.cell id HM.out)).mono ?_
   rintro e w6 ⟨rfl, hk6⟩
   have HK6 := Lib.hid (HK5.out.trans hk6)
   clear hk6
   go_wp2_with fail
   go_ret
   exact ⟨rfl, HK6.out⟩
end Go.Proofs.YtplbdlgmjehckabGreatDoor

