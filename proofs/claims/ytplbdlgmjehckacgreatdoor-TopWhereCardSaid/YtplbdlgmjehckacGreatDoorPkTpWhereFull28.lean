/-
  Lemmas for the claims of this seat: the program's functions walked, and plain laws. In this order: Bts TpWalk TpFold TpLawWhere.
-/
import Derived.Test.YtplbdlgmjehckacGreatDoorPk9
import Derived.Lib.ConvBytes
import Derived.Test.YtplbdlgmjehckacGreatDoorPk26
import Derived.Test.YtplbdlgmjehckacGreatDoorPk8
import Derived.Test.YtplbdlgmjehckacGreatDoorPkTpWhereFull27
import Derived.Test.YtplbdlgmjehckacGreatDoorPk18
namespace Go.Proofs.YtplbdlgmjehckacGreatDoor
open Go.RowKit
set_option linter.unusedVariables false
set_option linter.unusedSimpArgs false
theorem kept_bytes (w : World) (e : TypeId) (s : ByteArray) : Kept (fun _ => False) w (Lib.bytesWorld w e s) :=
  ⟨rfl, rfl, rfl, by rw [Lib.bytesWorld_size]; omega, fun k hk _ => Lib.bytesWorld_at_old w e s k hk⟩
theorem bytes_of (x : B) (w : World) : ∃ (wb : World) (cp : Nat), (convert 9 102 (.string (str x))).run Tryz.prog w = .ok (.slice (some ⟨w.heap.size, 0, none⟩) x.length cp) wb ∧ Kept (fun _ => False) w wb ∧
    ∀ j (hj : j < x.length), wb.cell? ⟨w.heap.size, j, none⟩ = some (.int .u8 ((x[j]).toNat : Int)) :=
  ⟨_, _, Lib.run_convert_string_bytes w 9 102 5 (str x) (u := .string) Tryz.underlying9 Tryz.underlying102 Tryz.underlying5, kept_bytes w _ _, fun j hj => by
    rw [Lib.bytesWorld_cell w _ (str x) j hj]
    simp [List.getD, List.getElem?_eq_getElem hj]⟩
set_option maxRecDepth 100000 in
set_option maxHeartbeats 1600000 in
theorem aliveT_any (w : World) (m : Int) (hm : w.cell? ⟨0, 0, none⟩ = some (.int .i64 m)) : Calls Tryz.prog 28 #[] w fun e w' => e = .returned (.bool true) ∧ Kept (fun _ => False) w w' := by
  have HC := Lib.hid (fold_is aliveTIn m w hm (by decide) aliveT_read (fun st S => aliveT S))
  clear hm
  go_enter Tryz.func28, Tryz.ntmps28
  go_wp2_with fail
  refine HC.out.mono ?_
  rintro e w1 ⟨rfl, hk1⟩
  have HK := Lib.hid (hk1.alloc (.cells #[.int .i64 0, .int .i64 0] 26 (0, 0)))
  clear hk1
  unfold aliveTOut
  go_wp2_with fail
  go_ret
  exact ⟨rfl, HK.out⟩
theorem tlow_num (c : UInt8) : isLow c = (decide (97 ≤ (c.toNat : Int)) && decide ((c.toNat : Int) ≤ 122)) := by
  unfold isLow; rw [Bool.eq_iff_iff]; simp; omega
set_option maxHeartbeats 400000 in
theorem tlow_is (c : UInt8) (x : Bool) (w : World) (hx : isLow c = x) : Calls Tryz.prog 70 #[.int .u8 (c.toNat : Int)] w fun e w' => e = .returned (.bool x) ∧ w' = w := by
  rw [tlow_num] at hx
  have HX := Lib.hid hx
  clear hx
  go_enter Tryz.func70, Tryz.ntmps70
  by_cases h1 : 97 ≤ (c.toNat : Int)
  · by_cases h2 : (c.toNat : Int) ≤ 122
    · go_wp2
      go_ret
      exact ⟨retb (by rw [← HX.out]; simp [h1, h2]), rfl⟩
    · go_wp2
      go_ret
      exact ⟨retb (by rw [← HX.out]; simp [h1, h2]), rfl⟩
  · go_wp2
    go_ret
    exact ⟨retb (by rw [← HX.out]; simp; omega), rfl⟩
def isTw (c : UInt8) : Bool := isLow c || (decide (48 ≤ c.toNat) && decide (c.toNat ≤ 57))
theorem tw_word {c : UInt8} (h : isTw c = true) : isWord c = true := by
  unfold isTw at h
  unfold isWord
  rcases (Bool.or_eq_true _ _).mp h with h | h
  · rw [h]; rfl
  · rw [h]; simp
theorem topW_of {a : B} (h : ∀ c ∈ a, isTw c = true) (hn : a ≠ []) (hl : a.length ≤ 20) : TopW a := ⟨⟨hn, fun c hc => tw_word (h c hc)⟩, hl⟩
set_option maxRecDepth 100000 in
set_option maxHeartbeats 1600000 in
theorem topword_any (a : B) (w : World) (ha : a.length ≤ 9223372036854775807) : Calls Tryz.prog 29 #[.string (str a)] w fun e w' => ∃ b : Bool, e = .returned (.bool b) ∧ (b = true → TopW a) ∧ Kept (fun _ => False) w w' := by
  obtain ⟨wb, cp, hcv, kb, hbc⟩ := bytes_of a w
  have HBC := Lib.hid hbc
  have HKB := Lib.hid kb
  clear hbc kb
  go_enter Tryz.func29, Tryz.ntmps29
  go_wp2_with fail
  go_loopw [8] (fun c wr => ∃ i : Nat, i ≤ a.length ∧ c = .int .i64 (i : Int) ∧ wr = wb ∧ Hid (∀ j (hj : j < a.length), j < i → isTw a[j] = true)) (fun c _ => a.length - (intOf c).toNat)
  case atStart => exact ⟨0, by omega, rfl, rfl, Lib.hid (fun j hj h => by omega)⟩
  case round =>
    obtain ⟨i, hi, rfl, rfl, HA⟩ := hrel
    by_cases hlt : i < a.length
    · have c0 := HBC.out i hlt
      obtain ⟨x, hx⟩ : ∃ x, a[i] = x := ⟨_, rfl⟩
      rw [hx] at c0
      have HX := Lib.hid hx
      have hnx : isTw x = true → ∀ j (hj : j < a.length), j < i + 1 → isTw a[j] = true := fun h j hj hj1 => by
        by_cases hji : j = i
        · subst hji; rw [hx]; exact h
        · exact HA.out j hj (by omega)
      have HNX := Lib.hid hnx
      clear hx hnx
      cases hlow : isLow x with
      | true =>
        have HLW := Lib.hid (tlow_is x true wr hlow)
        have HT : Hid (isTw x = true) := Lib.hid (by unfold isTw; rw [hlow]; rfl)
        go_wp2_with (go_at_call 70; refine HLW.out.mono ?_; rintro e w2 ⟨rfl, rfl⟩)
        go_roundw
        case measure => simp [intOf]; omega
        case rel => exact ⟨i + 1, by omega, by go_num, (by first | rfl | trivial), Lib.hid (HNX.out HT.out)⟩
      | false =>
        have HLW := Lib.hid (tlow_is x false wr hlow)
        by_cases h1 : (x.toNat : Int) < 48
        · go_wp2_with (go_at_call 70; refine HLW.out.mono ?_; rintro e w2 ⟨rfl, rfl⟩)
          go_ret
          exact ⟨false, rfl, (fun h => by cases h), HKB.out⟩
        · by_cases h2 : (57 : Int) < x.toNat
          · go_wp2_with (go_at_call 70; refine HLW.out.mono ?_; rintro e w2 ⟨rfl, rfl⟩)
            go_ret
            exact ⟨false, rfl, (fun h => by cases h), HKB.out⟩
          · have HT : Hid (isTw x = true) := Lib.hid (by unfold isTw; simp; right; omega)
            go_wp2_with (go_at_call 70; refine HLW.out.mono ?_; rintro e w2 ⟨rfl, rfl⟩)
            go_roundw
            case measure => simp [intOf]; omega
            case rel => exact ⟨i + 1, by omega, by go_num, (by first | rfl | trivial), Lib.hid (HNX.out HT.out)⟩
    · obtain rfl : i = a.length := by omega
      have hall : ∀ c ∈ a, isTw c = true := fun c hc => by
        obtain ⟨j, hj, rfl⟩ := List.getElem_of_mem hc
        exact HA.out j hj hj
      have HALL := Lib.hid hall
      clear hall
      cases hem : a.isEmpty with
      | true =>
        go_wp2_with fail
        go_ret
        exact ⟨false, rfl, (fun h => by cases h), HKB.out⟩
      | false =>
        have hne : a ≠ [] := fun h => by rw [h] at hem; cases hem
        have HNE := Lib.hid hne
        clear hne
        by_cases h20 : (a.length : Int) ≤ 20
        · go_wp2_with fail
          go_ret
          exact ⟨true, rfl, fun _ => topW_of HALL.out HNE.out (by omega), HKB.out⟩
        · have h21 : 20 < (a.length : Int) := by omega
          have h22 : 20 < a.length := by omega
          have h23 : ((a.length : Int) ≤ 20) = False := by simp; omega
          have h24 : (a.length ≤ 20) = False := by simp; omega
          clear h20
          go_wp2_with fail
          go_ret
          exact ⟨false, rfl, (fun h => by cases h), HKB.out⟩
set_option maxRecDepth 100000 in
set_option maxHeartbeats 1600000 in
theorem styleT_any (t : B) (l : List PNode) (k : Nat) (n : PNode) (hp : pParse t = .ok l) (hn : l[k]? = some n) (m : Int) (w : World) (hm : w.cell? ⟨0, 0, none⟩ = some (.int .i64 m)) (ht : t.length ≤ 9223372036854775807) :
    Calls Tryz.prog 30 #[.string (str t), .int .i64 (k : Int)] w fun e w' => e = .returned (.tuple #[.string (str (pGet n.attrs styleName).1), .bool true]) ∧ Kept (fun _ => False) w w' := by
  have HCP := parse_any t w m hm ht
  rw [hp] at HCP
  replace HCP := Lib.hid HCP
  have hl := (page_lim hp).2.1
  have hkl : k < l.length := (List.getElem?_eq_some_iff.1 hn).1
  have HN := Lib.hid hn
  clear hm hn hp
  go_enter Tryz.func30, Tryz.ntmps30
  go_wp2_with fail
  refine HCP.out.mono ?_
  rintro e w1 ⟨lv, rfl, hb1, hl1⟩
  obtain ⟨la, lc, rfl, hlc1, hlc2⟩ := hl1.form
  unfold maxLen at hlc2
  obtain ⟨wb, HWB⟩ : ∃ x, Hid (w1.alloc (.cells #[.int .i64 0, .int .i64 0] 26 (0, 0)) = x) := ⟨_, rfl⟩
  have hk1 : Kept (fun _ => False) w1 wb := by rw [← HWB.out]; exact (Kept.refl _ w1).alloc _
  have HKB := Lib.hid ((Kept.of_below (S := fun _ => False) hb1).trans hk1)
  have c0 : wb.cell? ⟨w1.heap.size, 0, none⟩ = some (.int .i64 0) := by rw [← HWB.out]; exact cellIn (newIn w1 _) 0 rfl
  obtain ⟨nb, noff, av, rfl, g0, g1, g2, g3, g4, g5, hav⟩ := (nodes_firm.kept hl1 hk1).at HN.out
  obtain ⟨aa, acap, rfl, hac1, hac2⟩ := hav.form
  unfold maxLen at hac2
  have HCG := Lib.hid (get_any wb _ n styleName hav)
  clear hb1 hl1 hk1 hav
  go_upto_region 2 with fail
  rw [HWB.out]
  go_wp2_with fail
  refine HCG.out.mono ?_
  rintro e w2 ⟨rfl, hb2⟩
  have HK2 := Lib.hid (HKB.out.trans (Kept.of_below hb2))
  clear hb2 g0 g1 g2 g3 g4 g5
  go_wp2_with fail
  refine bodyPost_ret (v := .tuple #[.string (str (pGet n.attrs styleName).1), .bool true]) (by simp [results, Tryz.results30, go_sem]) rfl ?_
  exact ⟨rfl, HK2.out⟩
theorem fold_law (s : B) (m : Int) (w : World) (hm : w.cell? ⟨0, 0, none⟩ = some (.int .i64 m)) (hs : s.length ≤ 9223372036854775807) {l : List PNode} {rules : List PRule} {Q : B → Prop} (h : fRead s = .ok (l, rules)) (hf : ∀ st, IsStays l rules st → ∃ t, fFold s l rules st = .ok t ∧ Q t) :
    Calls Tryz.prog 19 #[.string (str s)] w fun e w' => ∃ t, e = .returned (.tuple #[.string (str t), .agg #[.int .i64 0, .int .i64 0]]) ∧ Q t ∧ Kept (fun _ => False) w w' :=
  (fold_any s m w hm hs).mono fun e w' he => by
    obtain ⟨hk, hx⟩ := he
    rw [h] at hx
    obtain ⟨st, hst, hx⟩ := hx
    obtain ⟨t, ht, hq⟩ := hf st hst
    rw [ht, foldV_ok] at hx
    exact ⟨t, hx, hq, hk⟩
def Second (v t : B) : Prop := t.length ≤ 6000 ∧ ∃ m n1, pParse t = .ok m ∧ m[1]? = some n1 ∧ (pGet n1.attrs styleName).1 = v
theorem parse_short {t : B} {m : List PNode} (h : pParse t = .ok m) : t.length ≤ 6000 := (page_lim h).1
def MapOfG (G : Value → Value → Prop) (w : World) (b : Nat) : Prop := ∃ f, MapFn .string w b f ∧ ∀ k v, f k = some v → G k v
section
variable {o : Oper} {a : Act} {K : Act → World → Prop} {Q : Exit → Act → World → Prop} {wa wc : World} {b : Nat} {G : Value → Value → Prop}
theorem mapOf_made (t : TypeId) (G : Value → Value → Prop) (hK : Kept (fun _ => False) wa wc)
    (h : ∀ b w', wa.heap.size ≤ b → MapOfG G w' b → Kept (fun _ => False) wa w' → K (a.put o.dst (.map (some b))) w') : Oper.upon Tryz.prog o a K Q ((Sem.run Tryz.prog (Instr.makeMap t none) wc).andThen fun v w' => .ok (.value v) w') :=
  upon_made t .string fun b w' h1 _ h3 h4 => h b w' (by rw [h1]; exact hK.size) ⟨_, h3, fun k v e => by cases e⟩ (hK.trans h4)
set_option maxRecDepth 20000 in
theorem mapOf_put {s t : B} (hM : MapOfG G wc b) (hK : Kept (fun _ => False) wa wc) (hb : wa.heap.size ≤ b) (hg : G (.string (str s)) (.string (str t)))
    (h : ∀ w', MapOfG G w' b → Kept (fun _ => False) wa w' → K (a.put o.dst undef) w') : Oper.upon Tryz.prog o a K Q ((Sem.run Tryz.prog (Instr.mapUpdate 67 (.map (some b)) (.string (str s)) (.string (str t))) wc).andThen fun _ w' => .ok .skip w') := by
  classical
  obtain ⟨f, hf, hG⟩ := hM
  exact upon_insert (P := Tryz.prog) (mty := 67) (kt := 9) (et := 9) (kind := .string) Tryz.underlying67 Tryz.underlying9 (fun y => if y = .string (str s) then some (.string (str t)) else f y) hf (by trivial) (if_pos rfl) (fun y _ hne => if_neg hne) fun w' h1 h2 _ =>
    h w' ⟨_, h1, fun k v e => by
      by_cases hk : k = .string (str s)
      · rw [if_pos hk] at e
        cases e
        rw [hk]; exact hg
      · rw [if_neg hk] at e
        exact hG k v e⟩ (hK.trans' h2 fun i hi hx => by omega)
set_option maxRecDepth 20000 in
theorem mapOf_range (hM : MapOfG G wc b) (hK : Kept (fun _ => False) wa wc) (hb : wa.heap.size ≤ b)
    (h : ∀ r w' L, Ranging (fun x : Value × Value => x) w' b r L → (∀ x ∈ L, G x.1 x.2) → b < r → Kept (fun _ => False) wa w' → K (a.put o.dst (.pointer (some ⟨r, 0, none⟩))) w') : Oper.upon Tryz.prog o a K Q ((Sem.run Tryz.prog (Instr.range 67 (.map (some b))) wc).andThen fun v w' => .ok (.value v) w') := by
  obtain ⟨f, hf, hG⟩ := hM
  obtain ⟨w', l, hr, hst, hl, hnd, hiff, hkk, hk, hs⟩ := Ranging.start (P := Tryz.prog) (mty := 67) (enc := fun x : Value × Value => x) hf Tryz.underlying67 (fun l => l) (fun es _ => List.map_id _)
  rw [hr]
  exact h _ w' l hst (fun x hx => hG _ _ ((hiff x.1 x.2 (hkk x hx)).2 hx)) hf.lt (hK.trans hk)
end
def GoodW (s t : B) : Prop := s.length ≤ 10000 ∧ ∃ l rs, fRead s = .ok (l, rs) ∧ ∀ st, IsStays l rs st → fFold s l rs st = .ok t
def GoodV (k v : Value) : Prop := ∃ s t, k = .string (str s) ∧ v = .string (str t) ∧ GoodW s t
theorem where_texts0 {a b X1 Y1 WN PP : B} (ha : TopW a) (hb : TopW b) (h1 : X1 = 112 :: 123 :: 99 :: 111 :: 108 :: 111 :: 114 :: 58 :: (a ++ [125])) (h2 : Y1 = 98 :: 123 :: 115 :: 105 :: 122 :: 101 :: 58 :: (b ++ [125])) (h3 : WN = 60 :: 112 :: 32 :: 115 :: 116 :: 121 :: 108 :: 101 :: 61 :: 34 :: 99 :: 111 :: 108 :: 111 :: 114 :: 58 :: 32 :: (a ++ 34 :: 62 :: 120 :: 60 :: 98 :: 32 :: 115 :: 116 :: 121 :: 108 :: 101 :: 61 :: 34 :: 115 :: 105 :: 122 :: 101 :: 58 :: 32 :: (b ++ [34, 62, 121, 60, 47, 98, 62, 60, 47, 112, 62]))) (h4 : PP = [60, 112, 62, 120, 60, 98, 62, 121, 60, 47, 98, 62, 60, 47, 112, 62]) : GoodV (.string (str (60 :: 115 :: 116 :: 121 :: 108 :: 101 :: 62 :: (X1 ++ (Y1 ++ 60 :: 47 :: 115 :: 116 :: 121 :: 108 :: 101 :: 62 :: PP))))) (.string (str (60 :: 115 :: 116 :: 121 :: 108 :: 101 :: 62 :: 32 :: 32 :: 60 :: 47 :: 115 :: 116 :: 121 :: 108 :: 101 :: 62 :: WN))) := by
  have hX : textP (whereT a b 0) = 60 :: 115 :: 116 :: 121 :: 108 :: 101 :: 62 :: (X1 ++ (Y1 ++ 60 :: 47 :: 115 :: 116 :: 121 :: 108 :: 101 :: 62 :: PP)) := by rw [h1, h2, h4]; simp [whereT, whereP, rco, rsz, textP, openText, closeText, attrsText, attrText, styleName, textIn, rul, In1.text, ruleText, declText, colorName, sizeName]
  have hY : textP (wantT a b 0) = 60 :: 115 :: 116 :: 121 :: 108 :: 101 :: 62 :: 32 :: 32 :: 60 :: 47 :: 115 :: 116 :: 121 :: 108 :: 101 :: 62 :: WN := by rw [h3]; simp [wantT, wantP, textP, openText, closeText, attrsText, attrText, styleName, declTextB, colorName, sizeName]
  obtain ⟨k1, k2⟩ := top_where ha hb (o := 0) (by omega) rfl
  rw [hX] at k1 k2
  rw [hY] at k2
  have l1 := ha.len
  have l2 := hb.len
  exact ⟨_, _, rfl, rfl, by rw [h1, h2, h4]; simp; omega, _, _, k1, k2⟩
theorem where_texts1 {a b X1 Y1 WN PP : B} (ha : TopW a) (hb : TopW b) (h1 : X1 = 112 :: 123 :: 99 :: 111 :: 108 :: 111 :: 114 :: 58 :: (a ++ [125])) (h2 : Y1 = 98 :: 123 :: 115 :: 105 :: 122 :: 101 :: 58 :: (b ++ [125])) (h3 : WN = 60 :: 112 :: 32 :: 115 :: 116 :: 121 :: 108 :: 101 :: 61 :: 34 :: 99 :: 111 :: 108 :: 111 :: 114 :: 58 :: 32 :: (a ++ 34 :: 62 :: 120 :: 60 :: 98 :: 32 :: 115 :: 116 :: 121 :: 108 :: 101 :: 61 :: 34 :: 115 :: 105 :: 122 :: 101 :: 58 :: 32 :: (b ++ [34, 62, 121, 60, 47, 98, 62, 60, 47, 112, 62]))) (h4 : PP = [60, 112, 62, 120, 60, 98, 62, 121, 60, 47, 98, 62, 60, 47, 112, 62]) : GoodV (.string (str ((PP ++ 60 :: 115 :: 116 :: 121 :: 108 :: 101 :: 62 :: (X1 ++ (Y1 ++ [60, 47, 115, 116, 121, 108, 101, 62])))))) (.string (str ((WN ++ [60, 115, 116, 121, 108, 101, 62, 32, 32, 60, 47, 115, 116, 121, 108, 101, 62])))) := by
  have hX : textP (whereT a b 1) = (PP ++ 60 :: 115 :: 116 :: 121 :: 108 :: 101 :: 62 :: (X1 ++ (Y1 ++ [60, 47, 115, 116, 121, 108, 101, 62]))) := by rw [h1, h2, h4]; simp [whereT, whereP, rco, rsz, textP, openText, closeText, attrsText, attrText, styleName, textIn, rul, In1.text, ruleText, declText, colorName, sizeName]
  have hY : textP (wantT a b 1) = (WN ++ [60, 115, 116, 121, 108, 101, 62, 32, 32, 60, 47, 115, 116, 121, 108, 101, 62]) := by rw [h3]; simp [wantT, wantP, textP, openText, closeText, attrsText, attrText, styleName, declTextB, colorName, sizeName]
  obtain ⟨k1, k2⟩ := top_where ha hb (o := 1) (by omega) rfl
  rw [hX] at k1 k2
  rw [hY] at k2
  have l1 := ha.len
  have l2 := hb.len
  exact ⟨_, _, rfl, rfl, by rw [h1, h2, h4]; simp; omega, _, _, k1, k2⟩
theorem where_texts2 {a b X1 Y1 WN PP : B} (ha : TopW a) (hb : TopW b) (h1 : X1 = 112 :: 123 :: 99 :: 111 :: 108 :: 111 :: 114 :: 58 :: (a ++ [125])) (h2 : Y1 = 98 :: 123 :: 115 :: 105 :: 122 :: 101 :: 58 :: (b ++ [125])) (h3 : WN = 60 :: 112 :: 32 :: 115 :: 116 :: 121 :: 108 :: 101 :: 61 :: 34 :: 99 :: 111 :: 108 :: 111 :: 114 :: 58 :: 32 :: (a ++ 34 :: 62 :: 120 :: 60 :: 98 :: 32 :: 115 :: 116 :: 121 :: 108 :: 101 :: 61 :: 34 :: 115 :: 105 :: 122 :: 101 :: 58 :: 32 :: (b ++ [34, 62, 121, 60, 47, 98, 62, 60, 47, 112, 62]))) (h4 : PP = [60, 112, 62, 120, 60, 98, 62, 121, 60, 47, 98, 62, 60, 47, 112, 62]) : GoodV (.string (str (60 :: 115 :: 116 :: 121 :: 108 :: 101 :: 62 :: (X1 ++ 60 :: 47 :: 115 :: 116 :: 121 :: 108 :: 101 :: 62 :: (PP ++ 60 :: 115 :: 116 :: 121 :: 108 :: 101 :: 62 :: (Y1 ++ [60, 47, 115, 116, 121, 108, 101, 62])))))) (.string (str (60 :: 115 :: 116 :: 121 :: 108 :: 101 :: 62 :: 32 :: 60 :: 47 :: 115 :: 116 :: 121 :: 108 :: 101 :: 62 :: (WN ++ [60, 115, 116, 121, 108, 101, 62, 32, 60, 47, 115, 116, 121, 108, 101, 62])))) := by
  have hX : textP (whereT a b 2) = 60 :: 115 :: 116 :: 121 :: 108 :: 101 :: 62 :: (X1 ++ 60 :: 47 :: 115 :: 116 :: 121 :: 108 :: 101 :: 62 :: (PP ++ 60 :: 115 :: 116 :: 121 :: 108 :: 101 :: 62 :: (Y1 ++ [60, 47, 115, 116, 121, 108, 101, 62]))) := by rw [h1, h2, h4]; simp [whereT, whereP, rco, rsz, textP, openText, closeText, attrsText, attrText, styleName, textIn, rul, In1.text, ruleText, declText, colorName, sizeName]
  have hY : textP (wantT a b 2) = 60 :: 115 :: 116 :: 121 :: 108 :: 101 :: 62 :: 32 :: 60 :: 47 :: 115 :: 116 :: 121 :: 108 :: 101 :: 62 :: (WN ++ [60, 115, 116, 121, 108, 101, 62, 32, 60, 47, 115, 116, 121, 108, 101, 62]) := by rw [h3]; simp [wantT, wantP, textP, openText, closeText, attrsText, attrText, styleName, declTextB, colorName, sizeName]
  obtain ⟨k1, k2⟩ := top_where ha hb (o := 2) (by omega) rfl
  rw [hX] at k1 k2
  rw [hY] at k2
  have l1 := ha.len
  have l2 := hb.len
  exact ⟨_, _, rfl, rfl, by rw [h1, h2, h4]; simp; omega, _, _, k1, k2⟩
set_option maxRecDepth 100000 in
set_option maxHeartbeats 6400000 in
theorem topWhere_any (a b : B) (m : Int) (w : World) (hm : w.cell? ⟨0, 0, none⟩ = some (.int .i64 m)) (hla : a.length ≤ 9223372036854775807) (hlb : b.length ≤ 9223372036854775807) :
    Calls Tryz.prog 11 #[.string (str a), .string (str b)] w fun e w' => e = .returned (.bool true) ∧ Kept (fun _ => False) w w' := by
  have HA := Lib.hid (aliveT_any w m hm)
  have HM := Lib.hid hm
  have HWA : Hid (∀ wx, Calls Tryz.prog 29 #[.string (str a)] wx fun e w' => ∃ q0 : Bool, e = .returned (.bool q0) ∧ (q0 = true → TopW a) ∧ Kept (fun _ => False) wx w') := Lib.hid (fun wx => topword_any a wx hla)
  have HWB : Hid (∀ wx, Calls Tryz.prog 29 #[.string (str b)] wx fun e w' => ∃ q0 : Bool, e = .returned (.bool q0) ∧ (q0 = true → TopW b) ∧ Kept (fun _ => False) wx w') := Lib.hid (fun wx => topword_any b wx hlb)
  have HWO : Hid (0 < w.heap.size) := Lib.hid (by have := World.block_lt_of_cell? _ _ hm; exact this)
  clear hm
  go_enter Tryz.func11, Tryz.ntmps11
  go_wp2_with (go_at_call 28; refine HA.out.mono ?_; rintro e w1 ⟨rfl, hk1⟩)
  refine (HWA.out _).mono ?_
  rintro e w2 ⟨qa, rfl, hqa, hk2⟩
  have HK2 := Lib.hid (hk1.trans hk2)
  clear hk2 hk1
  cases qa with
  | false =>
    clear hqa
    go_wp2_with fail
    go_ret
    exact ⟨rfl, HK2.out⟩
  | true =>
    have HTA := Lib.hid (hqa rfl)
    clear hqa
    go_wp2_with fail
    refine (HWB.out _).mono ?_
    rintro e w3 ⟨qb, rfl, hqb, hk3⟩
    have HK3 := Lib.hid (HK2.out.trans hk3)
    clear hk3
    cases qb with
    | false =>
      clear hqb
      go_wp2_with fail
      go_ret
      exact ⟨rfl, HK3.out⟩
    | true =>
      have HTB := Lib.hid (hqb rfl)
      clear hqb
      have h20a := HTA.out.len
      have h20b := HTB.out.len
      go_upto_region 7 with fail
      obtain ⟨X1, HX1⟩ : ∃ x : B, Hid (112 :: 123 :: 99 :: 111 :: 108 :: 111 :: 114 :: 58 :: (a ++ [125]) = x) := ⟨_, Lib.hid rfl⟩
      obtain ⟨Y1, HY1⟩ : ∃ x : B, Hid (98 :: 123 :: 115 :: 105 :: 122 :: 101 :: 58 :: (b ++ [125]) = x) := ⟨_, Lib.hid rfl⟩
      obtain ⟨WN, HWN⟩ : ∃ x : B, Hid (60 :: 112 :: 32 :: 115 :: 116 :: 121 :: 108 :: 101 :: 61 :: 34 :: 99 :: 111 :: 108 :: 111 :: 114 :: 58 :: 32 :: (a ++ 34 :: 62 :: 120 :: 60 :: 98 :: 32 :: 115 :: 116 :: 121 :: 108 :: 101 :: 61 :: 34 :: 115 :: 105 :: 122 :: 101 :: 58 :: 32 :: (b ++ [34, 62, 121, 60, 47, 98, 62, 60, 47, 112, 62])) = x) := ⟨_, Lib.hid rfl⟩
      rw [HX1.out, HY1.out, HWN.out]
      obtain ⟨PP, HPP⟩ : ∃ x : B, Hid ([60, 112, 62, 120, 60, 98, 62, 121, 60, 47, 98, 62, 60, 47, 112, 62] = x) := ⟨_, Lib.hid rfl⟩
      rw [show (⟨#[60, 112, 62, 120, 60, 98, 62, 121, 60, 47, 98, 62, 60, 47, 112, 62]⟩ : ByteArray) = str PP from by rw [← HPP.out]; rfl]
      have lp : PP.length ≤ 16 := by rw [← HPP.out]; exact Nat.le_refl _
      have lx : X1.length ≤ 40 := by rw [← HX1.out]; simp; omega
      have ly : Y1.length ≤ 40 := by rw [← HY1.out]; simp; omega
      have lw : WN.length ≤ 100 := by rw [← HWN.out]; simp; omega
      have HG0 := Lib.hid (where_texts0 HTA.out HTB.out HX1.out.symm HY1.out.symm HWN.out.symm HPP.out.symm)
      have HG1 := Lib.hid (where_texts1 HTA.out HTB.out HX1.out.symm HY1.out.symm HWN.out.symm HPP.out.symm)
      have HG2 := Lib.hid (where_texts2 HTA.out HTB.out HX1.out.symm HY1.out.symm HWN.out.symm HPP.out.symm)
      have e0 : (9223372036854775807 < 7 + X1.length) = False := by simp; omega
      have e1 : (9223372036854775807 < X1.length + 1 + 1 + 1 + 1 + 1 + 1 + 1 + Y1.length) = False := by simp; omega
      have e2 : (9223372036854775807 < X1.length + Y1.length + 1 + 1 + 1 + 1 + 1 + 1 + 1 + 8) = False := by simp; omega
      have e3 : (9223372036854775807 < X1.length + (Y1.length + 8) + 1 + 1 + 1 + 1 + 1 + 1 + 1 + PP.length) = False := by simp; omega
      have e4 : (9223372036854775807 < 17 + WN.length) = False := by simp; omega
      have e5 : (9223372036854775807 < PP.length + 7) = False := by simp; omega
      have e6 : (9223372036854775807 < PP.length + 7 + X1.length) = False := by simp; omega
      have e7 : (9223372036854775807 < PP.length + (X1.length + 1 + 1 + 1 + 1 + 1 + 1 + 1) + Y1.length) = False := by simp; omega
      have e8 : (9223372036854775807 < PP.length + (X1.length + Y1.length + 1 + 1 + 1 + 1 + 1 + 1 + 1) + 8) = False := by simp; omega
      have e9 : (9223372036854775807 < WN.length + 17) = False := by simp; omega
      have e10 : (9223372036854775807 < X1.length + 1 + 1 + 1 + 1 + 1 + 1 + 1 + 8) = False := by simp; omega
      have e11 : (9223372036854775807 < X1.length + 8 + 1 + 1 + 1 + 1 + 1 + 1 + 1 + PP.length) = False := by simp; omega
      have e12 : (9223372036854775807 < X1.length + (PP.length + 1 + 1 + 1 + 1 + 1 + 1 + 1 + 1) + 1 + 1 + 1 + 1 + 1 + 1 + 1 + 7) = False := by simp; omega
      have e13 : (9223372036854775807 < X1.length + (PP.length + 7 + 1 + 1 + 1 + 1 + 1 + 1 + 1 + 1) + 1 + 1 + 1 + 1 + 1 + 1 + 1 + Y1.length) = False := by simp; omega
      have e14 : (9223372036854775807 < X1.length + (PP.length + (Y1.length + 1 + 1 + 1 + 1 + 1 + 1 + 1) + 1 + 1 + 1 + 1 + 1 + 1 + 1 + 1) + 1 + 1 + 1 + 1 + 1 + 1 + 1 + 8) = False := by simp; omega
      have e15 : (9223372036854775807 < 16 + WN.length) = False := by simp; omega
      have e16 : (9223372036854775807 < WN.length + 1 + 1 + 1 + 1 + 1 + 1 + 1 + 1 + 1 + 1 + 1 + 1 + 1 + 1 + 1 + 1 + 16) = False := by simp; omega
      go_cut [67] (fun v wx => ∃ bm r L, v = .pointer (some ⟨r, 0, none⟩) ∧ Hid (Ranging (fun x : Value × Value => x) wx bm r L) ∧ Hid (∀ x ∈ L, GoodV x.1 x.2) ∧ Hid (w.heap.size ≤ bm) ∧ Hid (bm < r) ∧ Hid (Kept (fun _ => False) w wx))
      case first =>
        have k30 := HK3.out
        go_region_held3 (fun w' => True) (exact trivial)
          (first
            | (refine mapOf_made (wa := w) _ GoodV (by first | exact k30 | exact k30.drew | exact k30.drewN _) ?_; intro bm wm hbm hpm hkm)
            | (refine mapOf_put (wa := w) (by exact hpm) (by exact hkm) hbm (by first | exact HG0.out | exact HG1.out | exact HG2.out) ?_; clear hpm hkm; intro wm hpm hkm)
            | (refine mapOf_range (wa := w) (by exact hpm) (by exact hkm) hbm ?_; intro r wr L hrg hgd hbr hkr))
        all_goals
          first
            | (go_wp2_with fail
               go_meet)
            | go_meet
        all_goals exact ⟨bm, r, L, rfl, Lib.hid hrg, Lib.hid hgd, Lib.hid hbm, Lib.hid hbr, Lib.hid hkr⟩
      case rest =>
        obtain ⟨bm, r, L0, rfl, HRG0, HGD0, HBM, HBR, HKC⟩ := hcut
        go_wp2_with fail
        go_loopw [] (fun wx => ∃ L, Hid (Ranging (fun x : Value × Value => x) wx bm r L) ∧ Hid (∀ x ∈ L, GoodV x.1 x.2) ∧ Hid (Kept (fun _ => False) w wx)) (fun wx => wx.rangeLeft bm r)
        case atStart => exact ⟨L0, HRG0, HGD0, HKC⟩
        case round =>
          obtain ⟨L, HRG, HGD, HKL⟩ := hrel
          rcases HRG.out.next (P := Tryz.prog) 0 with ⟨hL, hnx⟩ | ⟨x, L', w3, hp, hnx, hrng, hk3, hs3, hen⟩
          · go_wp2_with fail
            go_ret
            exact ⟨rfl, HKL.out⟩
          · obtain ⟨xk, xv⟩ := x
            obtain ⟨s, t, e1, e2, hsl, l, rs, hr, hf⟩ := HGD.out (xk, xv) (hp.mem_iff.2 (by simp))
            subst e1 e2
            have HGL : Hid (∀ x ∈ L', GoodV x.1 x.2) := Lib.hid fun x hx => HGD.out x (hp.mem_iff.2 (List.mem_cons_of_mem _ hx))
            have hlen : L.length = L'.length + 1 := by have := hp.length_eq; simpa using this
            have hk3w : Kept (fun _ => False) w w3 := HKL.out.trans' hk3 (fun q hq hx => by have := HBM.out; have := HBR.out; omega)
            have HCF := Lib.hid (fold_is s m w3 (hk3w.cell id HM.out) (by omega) hr hf)
            have HK3W := Lib.hid hk3w
            have HRN := Lib.hid hrng
            have HSL : Hid (wr.rangeLeft bm r = L.length) := Lib.hid HRG.out.left_len
            clear hk3w hrng hr hf hp hk3 hsl
            go_wp2_with fail
            refine HCF.out.mono ?_
            rintro e w5 ⟨rfl, hk5⟩
            have HR5 := Lib.hid (HRN.out.kept hk5 id id)
            have HK5 := Lib.hid (HK3W.out.trans hk5)
            obtain ⟨wb, HWB⟩ : ∃ x, Hid (w5.alloc (.cells #[.int .i64 0, .int .i64 0] 26 (0, 0)) = x) := ⟨_, Lib.hid rfl⟩
            have hkb : Kept (fun _ => False) w5 wb := by rw [← HWB.out]; exact (Kept.refl _ w5).alloc _
            have b0 : wb.cell? ⟨w5.heap.size, 0, none⟩ = some (.int .i64 0) := by rw [← HWB.out]; exact cellIn (newIn w5 _) 0 rfl
            have HRB := Lib.hid (HR5.out.kept hkb id id)
            have HKB := Lib.hid (HK5.out.trans hkb)
            clear hk5 hkb
            go_upto_region 11 with fail
            rw [HWB.out]
            go_wp2_with fail
            go_roundw
            case measure => rw [HRB.out.left_len, HSL.out]; omega
            case rel => exact ⟨L', HRB, HGL, HKB⟩
end Go.Proofs.YtplbdlgmjehckacGreatDoor

