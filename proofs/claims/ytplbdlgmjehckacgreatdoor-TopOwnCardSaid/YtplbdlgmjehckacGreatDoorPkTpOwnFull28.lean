/-
 Lemmas for the claims of this seat: the program's functions walked, and plain laws. In this order: Bts TpWalk TpFold TpLawOwn.
-/
import Derived.Test.YtplbdlgmjehckacGreatDoorPk9
import Derived.Lib.ConvBytes
import Derived.Test.YtplbdlgmjehckacGreatDoorPk26
import Derived.Test.YtplbdlgmjehckacGreatDoorPk8
import Derived.Test.YtplbdlgmjehckacGreatDoorPkTpOwnFull27
namespace Go.Proofs.YtplbdlgmjehckacGreatDoor
open Go.RowKit
set_option linter.unusedVariables false
set_option linter.unusedSimpArgs false
theorem kept_bytes (w : World) (e : TypeId) (s : ByteArray) : Kept (fun _ => False) w (Lib.bytesWorld w e s) :=
 ⟨rfl, rfl, rfl, by rw [Lib.bytesWorld_size]; omega, fun k hk _ => Lib.bytesWorld_at_old w e s k hk⟩
theorem bytes_of (x : B) (w : World) : ∃ (wb : World) (cp : Nat), (convert 9 102 (.string (str x))).run Tryz.prog w = .ok (.slice (some ⟨w.heap.size, 0, none⟩) x.length cp) wb ∧ Kept (fun _ => False) w wb ∧
  ∀ j (hj : j < x.length), wb.cell? ⟨w.heap.size, j, none⟩ = some (.int .u8 ((x[j]).toNat : Int)) :=
 ⟨_, _, Lib.run_convert_string_bytes w 9 102 5 (str x) (u := .string) Tryz.underlying9 Tryz.underlying102 Tryz.underlying5, kept_bytes w _ _, fun j hj => by
  rw [Lib.bytesWorld_cell w _ (str x) j hj]
  simp [List.getD, List.getElem?_eq_getElem hj]⟩
set_option maxRecDepth 100000 in
set_option maxHeartbeats 1600000 in
theorem aliveT_any (w : World) (m : Int) (hm : w.cell? ⟨0, 0, none⟩ = some (.int .i64 m)) : Calls Tryz.prog 28 #[] w fun e w' => e = .returned (.bool true) ∧ Kept (fun _ => False) w w' := by
 have HC := Lib.hid (fold_is aliveTIn m w hm (by decide) aliveT_read (fun st S => aliveT S))
 clear hm
 go_enter Tryz.func28, Tryz.ntmps28
 go_wp2_with fail
 refine HC.out.mono ?_
 rintro e w1 ⟨rfl, hk1⟩
 have HK := Lib.hid (hk1.alloc (.cells #[.int .i64 0, .int .i64 0] 26 (0, 0)))
 clear hk1
 unfold aliveTOut
 go_wp2_with fail
 go_ret
 exact ⟨rfl, HK.out⟩
theorem tlow_num (c : UInt8) : isLow c = (decide (97 ≤ (c.toNat : Int)) && decide ((c.toNat : Int) ≤ 122)) := by
 unfold isLow; rw [Bool.eq_iff_iff]; simp; omega
set_option maxHeartbeats 400000 in
theorem tlow_is (c : UInt8) (x : Bool) (w : World) (hx : isLow c = x) : Calls Tryz.prog 70 #[.int .u8 (c.toNat : Int)] w fun e w' => e = .returned (.bool x) ∧ w' = w := by
 rw [tlow_num] at hx
 have HX := Lib.hid hx
 clear hx
 go_enter Tryz.func70, Tryz.ntmps70
 by_cases h1 : 97 ≤ (c.toNat : Int)
 ·by_cases h2 : (c.toNat : Int) ≤ 122
  ·go_wp2
   go_ret
   exact ⟨retb (by rw [← HX.out]; simp [h1, h2]), rfl⟩
  ·go_wp2
   go_ret
   exact ⟨retb (by rw [← HX.out]; simp [h1, h2]), rfl⟩
 ·go_wp2
  go_ret
  exact ⟨retb (by rw [← HX.out]; simp; omega), rfl⟩
def isTw (c : UInt8) : Bool := isLow c || (decide (48 ≤ c.toNat) && decide (c.toNat ≤ 57))
theorem tw_word {c : UInt8} (h : isTw c = true) : isWord c = true := by
 unfold isTw at h
 unfold isWord
 rcases (Bool.or_eq_true _ _).mp h with h | h
 ·rw [h]; rfl
 ·rw [h]; simp
theorem topW_of {a : B} (h : ∀ c ∈ a, isTw c = true) (hn : a ≠ []) (hl : a.length ≤ 20) : TopW a := ⟨⟨hn, fun c hc => tw_word (h c hc)⟩, hl⟩
set_option maxRecDepth 100000 in
set_option maxHeartbeats 1600000 in
theorem topword_any (a : B) (w : World) (ha : a.length ≤ 9223372036854775807) : Calls Tryz.prog 29 #[.string (str a)] w fun e w' => ∃ b : Bool, e = .returned (.bool b) ∧ (b = true → TopW a) ∧ Kept (fun _ => False) w w' := by
 obtain ⟨wb, cp, hcv, kb, hbc⟩ := bytes_of a w
 have HBC := Lib.hid hbc
 have HKB := Lib.hid kb
 clear hbc kb
 go_enter Tryz.func29, Tryz.ntmps29
 go_wp2_with fail
 go_loopw [8] (fun c wr => ∃ i : Nat, i ≤ a.length ∧ c = .int .i64 (i : Int) ∧ wr = wb ∧ Hid (∀ j (hj : j < a.length), j < i → isTw a[j] = true)) (fun c _ => a.length - (intOf c).toNat)
 case atStart => exact ⟨0, by omega, rfl, rfl, Lib.hid (fun j hj h => by omega)⟩
 case round =>
  obtain ⟨i, hi, rfl, rfl, HA⟩ := hrel
  by_cases hlt : i < a.length
  ·have c0 := HBC.out i hlt
   obtain ⟨x, hx⟩ : ∃ x, a[i] = x := ⟨_, rfl⟩
   rw [hx] at c0
   have HX := Lib.hid hx
   have hnx : isTw x = true → ∀ j (hj : j < a.length), j < i + 1 → isTw a[j] = true := fun h j hj hj1 => by
    by_cases hji : j = i
    ·subst hji; rw [hx]; exact h
    ·exact HA.out j hj (by omega)
   have HNX := Lib.hid hnx
   clear hx hnx
   cases hlow : isLow x with
   | true =>
    have HLW := Lib.hid (tlow_is x true wr hlow)
    have HT : Hid (isTw x = true) := Lib.hid (by unfold isTw; rw [hlow]; rfl)
    go_wp2_with (go_at_call 70; refine HLW.out.mono ?_; rintro e w2 ⟨rfl, rfl⟩)
    go_roundw
    case measure => simp [intOf]; omega
    case rel => exact ⟨i + 1, by omega, by go_num, (by first | rfl | trivial), Lib.hid (HNX.out HT.out)⟩
   | false =>
    have HLW := Lib.hid (tlow_is x false wr hlow)
    by_cases h1 : (x.toNat : Int) < 48
    ·go_wp2_with (go_at_call 70; refine HLW.out.mono ?_; rintro e w2 ⟨rfl, rfl⟩)
     go_ret
     exact ⟨false, rfl, (fun h => by cases h), HKB.out⟩
    ·by_cases h2 : (57 : Int) < x.toNat
     ·go_wp2_with (go_at_call 70; refine HLW.out.mono ?_; rintro e w2 ⟨rfl, rfl⟩)
      go_ret
      exact ⟨false, rfl, (fun h => by cases h), HKB.out⟩
     ·have HT : Hid (isTw x = true) := Lib.hid (by unfold isTw; simp; right; omega)
      go_wp2_with (go_at_call 70; refine HLW.out.mono ?_; rintro e w2 ⟨rfl, rfl⟩)
      go_roundw
      case measure => simp [intOf]; omega
      case rel => exact ⟨i + 1, by omega, by go_num, (by first | rfl | trivial), Lib.hid (HNX.out HT.out)⟩
  ·obtain rfl : i = a.length := by omega
   have hall : ∀ c ∈ a, isTw c = true := fun c hc => by
    obtain ⟨j, hj, rfl⟩ := List.getElem_of_mem hc
    exact HA.out j hj hj
   have HALL := Lib.hid hall
   clear hall
   cases hem : a.isEmpty with
   | true =>
    go_wp2_with fail
    go_ret
    exact ⟨false, rfl, (fun h => by cases h), HKB.out⟩
   | false =>
    have hne : a ≠ [] := fun h => by rw [h] at hem; cases hem
    have HNE := Lib.hid hne
    clear hne
    by_cases h20 : (a.length : Int) ≤ 20
    ·go_wp2_with fail
     go_ret
     exact ⟨true, rfl, fun _ => topW_of HALL.out HNE.out (by omega), HKB.out⟩
    ·have h21 : 20 < (a.length : Int) := by omega
     have h22 : 20 < a.length := by omega
     have h23 : ((a.length : Int) ≤ 20) = False := by simp; omega
     have h24 : (a.length ≤ 20) = False := by simp; omega
     clear h20
     go_wp2_with fail
     go_ret
     exact ⟨false, rfl, (fun h => by cases h), HKB.out⟩
set_option maxRecDepth 100000 in
set_option maxHeartbeats 1600000 in
theorem styleT_any (t : B) (l : List PNode) (k : Nat) (n : PNode) (hp : pParse t = .ok l) (hn : l[k]? = some n) (m : Int) (w : World) (hm : w.cell? ⟨0, 0, none⟩ = some (.int .i64 m)) (ht : t.length ≤ 9223372036854775807) :
  Calls Tryz.prog 30 #[.string (str t), .int .i64 (k : Int)] w fun e w' => e = .returned (.tuple #[.string (str (pGet n.attrs styleName).1), .bool true]) ∧ Kept (fun _ => False) w w' := by
 have HCP := parse_any t w m hm ht
 rw [hp] at HCP
 replace HCP := Lib.hid HCP
 have hl := (page_lim hp).2.1
 have hkl : k < l.length := (List.getElem?_eq_some_iff.1 hn).1
 have HN := Lib.hid hn
 clear hm hn hp
 go_enter Tryz.func30, Tryz.ntmps30
 go_wp2_with fail
 refine HCP.out.mono ?_
 rintro e w1 ⟨lv, rfl, hb1, hl1⟩
 obtain ⟨la, lc, rfl, hlc1, hlc2⟩ := hl1.form
 unfold maxLen at hlc2
 obtain ⟨wb, HWB⟩ : ∃ x, Hid (w1.alloc (.cells #[.int .i64 0, .int .i64 0] 26 (0, 0)) = x) := ⟨_, rfl⟩
 have hk1 : Kept (fun _ => False) w1 wb := by rw [← HWB.out]; exact (Kept.refl _ w1).alloc _
 have HKB := Lib.hid ((Kept.of_below (S := fun _ => False) hb1).trans hk1)
 have c0 : wb.cell? ⟨w1.heap.size, 0, none⟩ = some (.int .i64 0) := by rw [← HWB.out]; exact cellIn (newIn w1 _) 0 rfl
 obtain ⟨nb, noff, av, rfl, g0, g1, g2, g3, g4, g5, hav⟩ := (nodes_firm.kept hl1 hk1).at HN.out
 obtain ⟨aa, acap, rfl, hac1, hac2⟩ := hav.form
 unfold maxLen at hac2
 have HCG := Lib.hid (get_any wb _ n styleName hav)
 clear hb1 hl1 hk1 hav
 go_upto_region 2 with fail
 rw [HWB.out]
 go_wp2_with fail
 refine HCG.out.mono ?_
 rintro e w2 ⟨rfl, hb2⟩
 have HK2 := Lib.hid (HKB.out.trans (Kept.of_below hb2))
 clear hb2 g0 g1 g2 g3 g4 g5
 go_wp2_with fail
 refine bodyPost_ret (v := .tuple #[.string (str (pGet n.attrs styleName).1), .bool true]) (by simp [results, Tryz.results30, go_sem]) rfl ?_
 exact ⟨rfl, HK2.out⟩
theorem fold_law (s : B) (m : Int) (w : World) (hm : w.cell? ⟨0, 0, none⟩ = some (.int .i64 m)) (hs : s.length ≤ 9223372036854775807) {l : List PNode} {rules : List PRule} {Q : B → Prop} (h : fRead s = .ok (l, rules)) (hf : ∀ st, IsStays l rules st → ∃ t, fFold s l rules st = .ok t ∧ Q t) :
  Calls Tryz.prog 19 #[.string (str s)] w fun e w' => ∃ t, e = .returned (.tuple #[.string (str t), .agg #[.int .i64 0, .int .i64 0]]) ∧ Q t ∧ Kept (fun _ => False) w w' :=
 (fold_any s m w hm hs).mono fun e w' he => by
  obtain ⟨hk, hx⟩ := he
  rw [h] at hx
  obtain ⟨st, hst, hx⟩ := hx
  obtain ⟨t, ht, hq⟩ := hf st hst
  rw [ht, foldV_ok] at hx
  exact ⟨t, hx, hq, hk⟩
def Second (v t : B) : Prop := t.length ≤ 6000 ∧ ∃ m n1, pParse t = .ok m ∧ m[1]? = some n1 ∧ (pGet n1.attrs styleName).1 = v
theorem parse_short {t : B} {m : List PNode} (h : pParse t = .ok m) : t.length ≤ 6000 := (page_lim h).1
def OwnT (Y t : B) : Prop := t = Y ∧ ∃ m qs, fRead Y = .ok (m, qs) ∧ ∀ st', IsStays m qs st' → fFold Y m qs st' = .ok Y
theorem own_texts {a b c : B} (ha : TopW a) (hb : TopW b) (hc : TopW c) : ∃ l rs, fRead (60 :: 112 :: 32 :: 105 :: 100 :: 61 :: 34 :: 113 :: 34 :: 32 :: 115 :: 116 :: 121 :: 108 :: 101 :: 61 :: 34 :: 115 :: 105 :: 122 :: 101 :: 58 :: (a ++ 59 :: 99 :: 111 :: 108 :: 111 :: 114 :: 58 :: (b ++ 59 :: 115 :: 105 :: 122 :: 101 :: 58 :: (c ++ [34, 32, 108, 97, 110, 103, 61, 34, 101, 110, 34, 62, 120, 60, 47, 112, 62])))) = .ok (l, rs) ∧ ∀ st, IsStays l rs st → ∃ t, fFold (60 :: 112 :: 32 :: 105 :: 100 :: 61 :: 34 :: 113 :: 34 :: 32 :: 115 :: 116 :: 121 :: 108 :: 101 :: 61 :: 34 :: 115 :: 105 :: 122 :: 101 :: 58 :: (a ++ 59 :: 99 :: 111 :: 108 :: 111 :: 114 :: 58 :: (b ++ 59 :: 115 :: 105 :: 122 :: 101 :: 58 :: (c ++ [34, 32, 108, 97, 110, 103, 61, 34, 101, 110, 34, 62, 120, 60, 47, 112, 62])))) l rs st = .ok t ∧ OwnT (60 :: 112 :: 32 :: 105 :: 100 :: 61 :: 34 :: 113 :: 34 :: 32 :: 115 :: 116 :: 121 :: 108 :: 101 :: 61 :: 34 :: 99 :: 111 :: 108 :: 111 :: 114 :: 58 :: 32 :: (b ++ 59 :: 32 :: 115 :: 105 :: 122 :: 101 :: 58 :: 32 :: (c ++ [34, 32, 108, 97, 110, 103, 61, 34, 101, 110, 34, 62, 120, 60, 47, 112, 62]))) t := by
 have hX : textP (ownPg (ownU a b c)) = 60 :: 112 :: 32 :: 105 :: 100 :: 61 :: 34 :: 113 :: 34 :: 32 :: 115 :: 116 :: 121 :: 108 :: 101 :: 61 :: 34 :: 115 :: 105 :: 122 :: 101 :: 58 :: (a ++ 59 :: 99 :: 111 :: 108 :: 111 :: 114 :: 58 :: (b ++ 59 :: 115 :: 105 :: 122 :: 101 :: 58 :: (c ++ [34, 32, 108, 97, 110, 103, 61, 34, 101, 110, 34, 62, 120, 60, 47, 112, 62]))) := by simp [ownPg, ownU, textP, openText, closeText, attrsText, attrText, styleName, idName, langName, declText, sizeName, colorName]
 have hY : textP (ownPg (ownWant b c)) = 60 :: 112 :: 32 :: 105 :: 100 :: 61 :: 34 :: 113 :: 34 :: 32 :: 115 :: 116 :: 121 :: 108 :: 101 :: 61 :: 34 :: 99 :: 111 :: 108 :: 111 :: 114 :: 58 :: 32 :: (b ++ 59 :: 32 :: 115 :: 105 :: 122 :: 101 :: 58 :: 32 :: (c ++ [34, 32, 108, 97, 110, 103, 61, 34, 101, 110, 34, 62, 120, 60, 47, 112, 62])) := by simp [ownPg, ownWant, sPrint, printOne, textP, openText, closeText, attrsText, attrText, styleName, idName, langName, sizeName, colorName]
 obtain ⟨h1, h2⟩ := top_own ha hb hc rfl
 rw [hX] at h1 h2
 rw [hY] at h2
 refine ⟨_, _, h1, fun st S => ?_⟩
 obtain ⟨k1, k2⟩ := h2 st S
 exact ⟨_, k1, rfl, k2⟩
set_option maxRecDepth 100000 in
set_option maxHeartbeats 3200000 in
theorem topOwn_any (a b c : B) (m : Int) (w : World) (hm : w.cell? ⟨0, 0, none⟩ = some (.int .i64 m)) (hla : a.length ≤ 9223372036854775807) (hlb : b.length ≤ 9223372036854775807) (hlc : c.length ≤ 9223372036854775807) :
  Calls Tryz.prog 12 #[.string (str a), .string (str b), .string (str c)] w fun e w' => e = .returned (.bool true) ∧ Kept (fun _ => False) w w' := by
 have HA := Lib.hid (aliveT_any w m hm)
 have HM := Lib.hid hm
 have HWA : Hid (∀ wx, Calls Tryz.prog 29 #[.string (str a)] wx fun e w' => ∃ q0 : Bool, e = .returned (.bool q0) ∧ (q0 = true → TopW a) ∧ Kept (fun _ => False) wx w') := Lib.hid (fun wx => topword_any a wx hla)
 have HWB : Hid (∀ wx, Calls Tryz.prog 29 #[.string (str b)] wx fun e w' => ∃ q0 : Bool, e = .returned (.bool q0) ∧ (q0 = true → TopW b) ∧ Kept (fun _ => False) wx w') := Lib.hid (fun wx => topword_any b wx hlb)
 have HWC : Hid (∀ wx, Calls Tryz.prog 29 #[.string (str c)] wx fun e w' => ∃ q0 : Bool, e = .returned (.bool q0) ∧ (q0 = true → TopW c) ∧ Kept (fun _ => False) wx w') := Lib.hid (fun wx => topword_any c wx hlc)
 clear hm
 go_enter Tryz.func12, Tryz.ntmps12
 go_wp2_with (go_at_call 28; refine HA.out.mono ?_; rintro e w1 ⟨rfl, hk1⟩)
 refine (HWA.out _).mono ?_
 rintro e w2 ⟨qa, rfl, hqa, hk2⟩
 have HK2 := Lib.hid (hk1.trans hk2)
 clear hk2 hk1
 cases qa with
 | false =>
  clear hqa
  go_wp2_with fail
  go_ret
  exact ⟨rfl, HK2.out⟩
 | true =>
  have HTA := Lib.hid (hqa rfl)
  clear hqa
  go_wp2_with fail
  refine (HWB.out _).mono ?_
  rintro e w3 ⟨qb, rfl, hqb, hk3⟩
  have HK3 := Lib.hid (HK2.out.trans hk3)
  clear hk3
  cases qb with
  | false =>
   clear hqb
   go_wp2_with fail
   go_ret
   exact ⟨rfl, HK3.out⟩
  | true =>
   have HTB := Lib.hid (hqb rfl)
   clear hqb
   go_wp2_with fail
   refine (HWC.out _).mono ?_
   rintro e w4 ⟨qc, rfl, hqc, hk4⟩
   have HK4 := Lib.hid (HK3.out.trans hk4)
   clear hk4
   cases qc with
   | false =>
    clear hqc
    go_wp2_with fail
    go_ret
    exact ⟨rfl, HK4.out⟩
   | true =>
    have HTC := Lib.hid (hqc rfl)
    clear hqc
    have h20a := HTA.out.len
    have h20b := HTB.out.len
    have h20c := HTC.out.len
    have HC1 : Hid (∀ wx, wx.cell? ⟨0, 0, none⟩ = some (.int .i64 m) → Calls Tryz.prog 19 #[.string (str (60 :: 112 :: 32 :: 105 :: 100 :: 61 :: 34 :: 113 :: 34 :: 32 :: 115 :: 116 :: 121 :: 108 :: 101 :: 61 :: 34 :: 115 :: 105 :: 122 :: 101 :: 58 :: (a ++ 59 :: 99 :: 111 :: 108 :: 111 :: 114 :: 58 :: (b ++ 59 :: 115 :: 105 :: 122 :: 101 :: 58 :: (c ++ [34, 32, 108, 97, 110, 103, 61, 34, 101, 110, 34, 62, 120, 60, 47, 112, 62])))))] wx fun e w' => ∃ t, e = .returned (.tuple #[.string (str t), .agg #[.int .i64 0, .int .i64 0]]) ∧ OwnT (60 :: 112 :: 32 :: 105 :: 100 :: 61 :: 34 :: 113 :: 34 :: 32 :: 115 :: 116 :: 121 :: 108 :: 101 :: 61 :: 34 :: 99 :: 111 :: 108 :: 111 :: 114 :: 58 :: 32 :: (b ++ 59 :: 32 :: 115 :: 105 :: 122 :: 101 :: 58 :: 32 :: (c ++ [34, 32, 108, 97, 110, 103, 61, 34, 101, 110, 34, 62, 120, 60, 47, 112, 62]))) t ∧ Kept (fun _ => False) wx w') := Lib.hid (fun wx hw => by
     obtain ⟨l, rs, h1, h2⟩ := own_texts HTA.out HTB.out HTC.out
     exact fold_law _ m wx hw (by simp; omega) h1 h2)
    go_wp2_with fail
    refine (HC1.out _ (HK4.out.cell id HM.out)).mono ?_
    rintro e w7 ⟨t, rfl, ⟨rfl, ms, qs, hr, hf⟩, hk7⟩
    have hkk := HK4.out.trans hk7
    obtain ⟨wb, HWB⟩ : ∃ x, Hid (w7.alloc (.cells #[.int .i64 0, .int .i64 0] 26 (0, 0)) = x) := ⟨_, rfl⟩
    have hkb : Kept (fun _ => False) w wb := by rw [← HWB.out]; exact hkk.alloc _
    have hb0 : wb.heap[w7.heap.size]? = some (.cells #[.int .i64 0, .int .i64 0] 26 (0, 0)) := by rw [← HWB.out]; exact newIn w7 _
    have HB0 := Lib.hid hb0
    have HC2 := Lib.hid (fold_is _ m wb (hkb.cell id HM.out) (by simp; omega) hr (fun st S => hf st S))
    have HKB := Lib.hid hkb
    clear hk7 hkk hkb hb0 hr hf
    go_upto_region 6 with fail
    rw [HWB.out]
    go_wp2_with fail
    refine HC2.out.mono ?_
    rintro e w8 ⟨rfl, hk8⟩
    have d0 : w8.cell? ⟨w7.heap.size, 0, none⟩ = some (.int .i64 0) := cellIn (hk8.heap id HB0.out) 0 rfl
    have HK8 := Lib.hid (HKB.out.trans hk8)
    obtain ⟨wc, HWC⟩ : ∃ x, Hid (w8.alloc (.cells #[.int .i64 0, .int .i64 0] 26 (0, 0)) = x) := ⟨_, rfl⟩
    have hkc : Kept (fun _ => False) w8 wc := by rw [← HWC.out]; exact (Kept.refl _ w8).alloc _
    have c0 : wc.cell? ⟨w8.heap.size, 0, none⟩ = some (.int .i64 0) := by rw [← HWC.out]; exact cellIn (newIn w8 _) 0 rfl
    have c1 : wc.cell? ⟨w7.heap.size, 0, none⟩ = some (.int .i64 0) := hkc.cell id d0
    have HKC := Lib.hid (HK8.out.trans hkc)
    clear hk8 hkc d0
    go_upto_region 7 with fail
    rw [HWC.out]
    go_wp2_with fail
    go_ret
    exact ⟨rfl, HKC.out⟩
end Go.Proofs.YtplbdlgmjehckacGreatDoor

