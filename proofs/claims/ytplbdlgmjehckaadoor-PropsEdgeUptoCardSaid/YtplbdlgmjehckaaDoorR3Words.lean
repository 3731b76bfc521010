/-
  inkref3's Words, Inherits, Initial.
-/
import Derived.Test.YtplbdlgmjehckaaDoorPrSpec
import Derived.Test.YtplbdlgmjehckaaDoorRet
import Derived.Test.YtplbdlgmjehckaaDoorMaps
import Derived.Test.YtplbdlgmjehckaaDoorSpl
import Derived.Test.YtplbdlgmjehckaaDoorRowsNews
import Derived.Deep.DeepCutAuto
import Derived.Deep.CutBlock
import Derived.Deep.Light
import Derived.Deep.LoopGhost
import Derived.Deep.RegionHeld3
namespace Go.Proofs.YtplbdlgmjehckaaDoor
open Go.RowKit
set_option linter.unusedVariables false
set_option linter.unusedSimpArgs false

set_option maxHeartbeats 400000 in
theorem rinherits_any (n : B) (w : World) : Calls Tryd.prog 16 #[.string (str n)] w fun e w' => e = .returned (.bool (pInherits n)) ∧ w' = w := by
  obtain ⟨r, HR⟩ : ∃ r, Hid (pInherits n = r) := ⟨_, rfl⟩
  rw [HR.out]
  go_enter Tryd.func16, Tryd.ntmps16
  go_wp2
  all_goals
    go_ret
    exact ⟨retb (by rw [← HR.out]; simp_all [pInherits, colorName, fontName, sizeName]), rfl⟩

/-! ### Initial: a map of seven names -/
@[reducible] def inE1 : MapEntry := ⟨.string ⟨#[99, 111, 108, 111, 114]⟩, .string ⟨#[98, 108, 97, 99, 107]⟩, 0⟩
@[reducible] def inE2 : MapEntry := ⟨.string ⟨#[102, 111, 110, 116]⟩, .string ⟨#[112, 108, 97, 105, 110]⟩, 1⟩
@[reducible] def inE3 : MapEntry := ⟨.string ⟨#[115, 105, 122, 101]⟩, .string ⟨#[49, 48]⟩, 2⟩
@[reducible] def inE4 : MapEntry := ⟨.string ⟨#[101, 100, 103, 101, 45, 116, 111, 112]⟩, .string ⟨#[48]⟩, 3⟩
@[reducible] def inE5 : MapEntry := ⟨.string ⟨#[101, 100, 103, 101, 45, 114, 105, 103, 104, 116]⟩, .string ⟨#[48]⟩, 4⟩
@[reducible] def inE6 : MapEntry := ⟨.string ⟨#[101, 100, 103, 101, 45, 98, 111, 116, 116, 111, 109]⟩, .string ⟨#[48]⟩, 5⟩
@[reducible] def inE7 : MapEntry := ⟨.string ⟨#[101, 100, 103, 101, 45, 108, 101, 102, 116]⟩, .string ⟨#[48]⟩, 6⟩
theorem str_beq (a b : B) : (str a == str b) = (a == b) := by
  show ((str a).data == (str b).data) = _
  simp [str]
theorem in_ins1 (w : World) : (Instr.mapUpdate 74 (.map (some w.heap.size)) (.string ⟨#[99, 111, 108, 111, 114]⟩) (.string ⟨#[98, 108, 97, 99, 107]⟩)).run Tryd.prog (w.alloc (.map #[] 0)) = .ok () (w.alloc (.map #[inE1] 1)) :=
  run_insert_top Tryd.underlying74 Tryd.underlying9 w (by trivial) (by kernel_rfl)
theorem in_ins2 (w : World) : (Instr.mapUpdate 74 (.map (some w.heap.size)) (.string ⟨#[102, 111, 110, 116]⟩) (.string ⟨#[112, 108, 97, 105, 110]⟩)).run Tryd.prog (w.alloc (.map #[inE1] 1)) = .ok () (w.alloc (.map #[inE1, inE2] 2)) :=
  run_insert_top Tryd.underlying74 Tryd.underlying9 w (by trivial) (by kernel_rfl)
theorem in_ins3 (w : World) : (Instr.mapUpdate 74 (.map (some w.heap.size)) (.string ⟨#[115, 105, 122, 101]⟩) (.string ⟨#[49, 48]⟩)).run Tryd.prog (w.alloc (.map #[inE1, inE2] 2)) = .ok () (w.alloc (.map #[inE1, inE2, inE3] 3)) :=
  run_insert_top Tryd.underlying74 Tryd.underlying9 w (by trivial) (by kernel_rfl)
theorem in_ins4 (w : World) : (Instr.mapUpdate 74 (.map (some w.heap.size)) (.string ⟨#[101, 100, 103, 101, 45, 116, 111, 112]⟩) (.string ⟨#[48]⟩)).run Tryd.prog (w.alloc (.map #[inE1, inE2, inE3] 3)) = .ok () (w.alloc (.map #[inE1, inE2, inE3, inE4] 4)) :=
  run_insert_top Tryd.underlying74 Tryd.underlying9 w (by trivial) (by kernel_rfl)
theorem in_ins5 (w : World) : (Instr.mapUpdate 74 (.map (some w.heap.size)) (.string ⟨#[101, 100, 103, 101, 45, 114, 105, 103, 104, 116]⟩) (.string ⟨#[48]⟩)).run Tryd.prog (w.alloc (.map #[inE1, inE2, inE3, inE4] 4)) = .ok () (w.alloc (.map #[inE1, inE2, inE3, inE4, inE5] 5)) :=
  run_insert_top Tryd.underlying74 Tryd.underlying9 w (by trivial) (by kernel_rfl)
theorem in_ins6 (w : World) : (Instr.mapUpdate 74 (.map (some w.heap.size)) (.string ⟨#[101, 100, 103, 101, 45, 98, 111, 116, 116, 111, 109]⟩) (.string ⟨#[48]⟩)).run Tryd.prog (w.alloc (.map #[inE1, inE2, inE3, inE4, inE5] 5)) = .ok () (w.alloc (.map #[inE1, inE2, inE3, inE4, inE5, inE6] 6)) :=
  run_insert_top Tryd.underlying74 Tryd.underlying9 w (by trivial) (by kernel_rfl)
theorem in_ins7 (w : World) : (Instr.mapUpdate 74 (.map (some w.heap.size)) (.string ⟨#[101, 100, 103, 101, 45, 108, 101, 102, 116]⟩) (.string ⟨#[48]⟩)).run Tryd.prog (w.alloc (.map #[inE1, inE2, inE3, inE4, inE5, inE6] 6)) = .ok () (w.alloc (.map #[inE1, inE2, inE3, inE4, inE5, inE6, inE7] 7)) :=
  run_insert_top Tryd.underlying74 Tryd.underlying9 w (by trivial) (by kernel_rfl)
/-- what the map says of a name -/
theorem in_hit (w : World) (n : B) (i : Nat) (v : ByteArray) (hf : Instr.findNow .string (.string (str n)) #[inE1, inE2, inE3, inE4, inE5, inE6, inE7].toList 0 = some (some (i, .string v))) :
    (Instr.lookup 74 (.map (some w.heap.size)) (.string (str n)) true).run Tryd.prog (w.alloc (.map #[inE1, inE2, inE3, inE4, inE5, inE6, inE7] 7)) = .ok (.tuple #[.string v, .bool true]) (w.alloc (.map #[inE1, inE2, inE3, inE4, inE5, inE6, inE7] 7)) :=
  run_look_hit (i := i) Tryd.underlying74 Tryd.underlying9 (newIn w _) (by trivial) hf true
theorem in_miss (w : World) (n : B) (hf : Instr.findNow .string (.string (str n)) #[inE1, inE2, inE3, inE4, inE5, inE6, inE7].toList 0 = some none) :
    (Instr.lookup 74 (.map (some w.heap.size)) (.string (str n)) true).run Tryd.prog (w.alloc (.map #[inE1, inE2, inE3, inE4, inE5, inE6, inE7] 7)) = .ok (.tuple #[.string ⟨#[]⟩, .bool false]) (w.alloc (.map #[inE1, inE2, inE3, inE4, inE5, inE6, inE7] 7)) :=
  run_look_miss Tryd.underlying74 Tryd.underlying9 (newIn w _) (by trivial) hf (by kernel_rfl) true
def inOk (n : B) : Bool := n == colorName || n == fontName || n == sizeName || n == edgeTop || n == edgeRight || n == edgeBottom || n == edgeLeft
def inVal (n : B) : B := if inOk n then pInitial n else []
theorem in_look (w : World) (n : B) : (Instr.lookup 74 (.map (some w.heap.size)) (.string (str n)) true).run Tryd.prog (w.alloc (.map #[inE1, inE2, inE3, inE4, inE5, inE6, inE7] 7)) = .ok (.tuple #[.string (str (inVal n)), .bool (inOk n)]) (w.alloc (.map #[inE1, inE2, inE3, inE4, inE5, inE6, inE7] 7)) := by
  by_cases h0 : n = colorName
  · subst h0
    exact in_hit w colorName 0 (str (inVal colorName)) (by kernel_rfl)
  by_cases h1 : n = fontName
  · subst h1
    exact in_hit w fontName 1 (str (inVal fontName)) (by kernel_rfl)
  by_cases h2 : n = sizeName
  · subst h2
    exact in_hit w sizeName 2 (str (inVal sizeName)) (by kernel_rfl)
  by_cases h3 : n = edgeTop
  · subst h3
    exact in_hit w edgeTop 3 (str (inVal edgeTop)) (by kernel_rfl)
  by_cases h4 : n = edgeRight
  · subst h4
    exact in_hit w edgeRight 4 (str (inVal edgeRight)) (by kernel_rfl)
  by_cases h5 : n = edgeBottom
  · subst h5
    exact in_hit w edgeBottom 5 (str (inVal edgeBottom)) (by kernel_rfl)
  by_cases h6 : n = edgeLeft
  · subst h6
    exact in_hit w edgeLeft 6 (str (inVal edgeLeft)) (by kernel_rfl)
  have hno : ∀ (l : B), n ≠ l → (str n == (⟨l.toArray⟩ : ByteArray)) = false := fun l h => by
    show (str n == str l) = false
    rw [str_beq]; exact beq_false_of_ne h
  have ho : inOk n = false := by simp [inOk, h0, h1, h2, h3, h4, h5, h6]
  have hv : inVal n = [] := by simp [inVal, ho]
  rw [ho, hv]
  refine in_miss w n ?_
  simp only [Instr.findNow, Instr.sameNow]
  rw [show (str n == (⟨#[99, 111, 108, 111, 114]⟩ : ByteArray)) = false from hno colorName h0]
  simp only []
  rw [show (str n == (⟨#[102, 111, 110, 116]⟩ : ByteArray)) = false from hno fontName h1]
  simp only []
  rw [show (str n == (⟨#[115, 105, 122, 101]⟩ : ByteArray)) = false from hno sizeName h2]
  simp only []
  rw [show (str n == (⟨#[101, 100, 103, 101, 45, 116, 111, 112]⟩ : ByteArray)) = false from hno edgeTop h3]
  simp only []
  rw [show (str n == (⟨#[101, 100, 103, 101, 45, 114, 105, 103, 104, 116]⟩ : ByteArray)) = false from hno edgeRight h4]
  simp only []
  rw [show (str n == (⟨#[101, 100, 103, 101, 45, 98, 111, 116, 116, 111, 109]⟩ : ByteArray)) = false from hno edgeBottom h5]
  simp only []
  rw [show (str n == (⟨#[101, 100, 103, 101, 45, 108, 101, 102, 116]⟩ : ByteArray)) = false from hno edgeLeft h6]

set_option maxHeartbeats 800000 in
theorem rinitial_any (n : B) (w : World) : Calls Tryd.prog 18 #[.string (str n)] w fun e w' => e = .returned (.string (str (pInitial n))) ∧ Below w.heap.size w w' := by
  have e0 := run_made (P := Tryd.prog) w 74
  have e1 := in_ins1 w
  have e2 := in_ins2 w
  have e3 := in_ins3 w
  have e4 := in_ins4 w
  have e5 := in_ins5 w
  have e6 := in_ins6 w
  have e7 := in_ins7 w
  have e8 := in_look w n
  have hb : Below w.heap.size w (w.alloc (.map #[inE1, inE2, inE3, inE4, inE5, inE6, inE7] 7)) := (Below.refl _ _).alloc (Nat.le_refl _) _
  have HB := Lib.hid hb
  clear hb
  cases ho : inOk n with
  | true =>
    rw [ho, show inVal n = pInitial n from by simp [inVal, ho]] at e8
    clear ho
    go_enter Tryd.func18, Tryd.ntmps18
    go_wp2_with fail
    go_ret
    exact ⟨rfl, HB.out⟩
  | false =>
    rw [ho] at e8
    have hp : Hid (pInitial n = [110, 111, 110, 101]) := Lib.hid (by
      simp only [inOk, Bool.or_eq_false_iff, beq_eq_false_iff_ne, ne_eq] at ho
      obtain ⟨⟨⟨⟨⟨⟨h0, h1⟩, h2⟩, h3⟩, h4⟩, h5⟩, h6⟩ := ho
      simp [pInitial, h0, h1, h2, h3, h4, h5, h6])
    clear ho
    go_enter Tryd.func18, Tryd.ntmps18
    go_wp2_with fail
    go_ret
    refine ⟨?_, HB.out⟩
    rw [hp.out]; rfl

/-! ### Words -/
theorem splitB_done {s : B} {a : Nat} (h : ∀ c ∈ s.drop a, c ≠ 32) : splitB (s.drop a) = [s.drop a] := splitB_last h
theorem splitB_next {s : B} {a i : Nat} (ha : a ≤ i) (hi : i < s.length) (h : ∀ j (hj : j < s.length), a ≤ j → j < i → s[j] ≠ 32) (hb : s[i] = 32) : splitB (s.drop a) = (s.drop a).take (i - a) :: splitB (s.drop (i + 1)) := by
  have e : s.drop a = (s.drop a).take (i - a) ++ (32 :: s.drop (i + 1)) := by
    have h1 : (s.drop a).drop (i - a) = 32 :: s.drop (i + 1) := by
      rw [List.drop_drop, show a + (i - a) = i from by omega, List.drop_eq_getElem_cons hi, hb]
    rw [← h1, List.take_append_drop]
  conv => lhs; rw [e]
  refine splitB_word (fun c hc => ?_) _
  obtain ⟨j, hj, rfl⟩ := List.mem_iff_getElem.1 hc
  simp only [List.length_take, List.length_drop] at hj
  simp only [List.getElem_take, List.getElem_drop]
  exact h (a + j) (by omega) (by omega) (by omega)
structure WLoop (w wr : World) (base : Nat) (s : B) (l : Value) (ws : List B) (a i : Nat) : Prop where
  own : wr.ownsRow base 9 1 l ws.length (ws.map strCells).flatten
  kept : Kept (fun _ => False) w wr
  le : a ≤ i
  words : splitB s = ws ++ splitB (s.drop a)
  plain : ∀ j (hj : j < s.length), a ≤ j → j < i → s[j] ≠ 32
  few : ws.length ≤ i
theorem WLoop.form {w wr : World} {base : Nat} {s : B} {l : Value} {ws : List B} {a i : Nat} (h : WLoop w wr base s l ws a i) : ∃ vo vc, l = .slice vo ws.length vc := by
  rcases h.own.2 with ⟨h, hn⟩ | ⟨g, cap, cur, h, _⟩
  · exact ⟨none, 0, by rw [h, hn]⟩
  · exact ⟨_, cap, h⟩
theorem info_str2 : (Tryd.prog.info? 9).map (fun i => (i.zero, i.size, i.bytes)) = some (some (.string ⟨#[]⟩), 1, 16) := by kernel_rfl
theorem str_rows {ws : List B} : ∀ r ∈ ws.map strCells, r.length = 1 := by
  intro r hr
  obtain ⟨a, _, rfl⟩ := List.mem_map.1 hr
  rfl

set_option maxRecDepth 100000 in
set_option maxHeartbeats 1600000 in
theorem words_any (s : B) (w : World) (hl : s.length ≤ 1048576) :
    Calls Tryd.prog 30 #[.string (str s)] w fun e w' => ∃ v, e = .returned v ∧ Below w.heap.size w w' ∧ RowsAt w' 1 v ((splitB s).map strCells) ∧ ∀ k, v.ownBlock = some k → w.heap.size ≤ k ∧ k < w'.heap.size := by
  obtain ⟨base, HBASE⟩ : ∃ base, Hid (w.heap.size = base) := ⟨_, rfl⟩
  obtain ⟨R, HR⟩ : ∃ R, Hid (splitB s = R) := ⟨_, rfl⟩
  rw [HR.out]
  obtain ⟨i0, hi0, hz0, hz1, hz2⟩ := info_parts info_str2
  go_enter Tryd.func30, Tryd.ntmps30
  go_upto_block 0 with fail
  go_cut [3, 4] (fun l x wx => ∃ (a : Nat) (ws : List B), x = .int .i64 a ∧ a ≤ s.length ∧ WLoop w wx base s l ws a s.length)
  case first =>
    go_wp2_with fail
    go_loopw [3, 4, 8] (fun l x i wr => ∃ (a k : Nat) (ws : List B), k ≤ s.length ∧ x = .int .i64 a ∧ i = .int .i64 k ∧ WLoop w wr base s l ws a k) (fun _ _ i _ => s.length - (intOf i).toNat)
    case atStart => exact ⟨0, 0, [], by omega, rfl, rfl, World.ownsRow_nil _ _ _ _, Kept.refl _ _, by omega, by simp, fun j _ _ h => by omega, by simp⟩
    case round =>
      obtain ⟨a, i, ws, hi, rfl, rfl, hL⟩ := hrel
      obtain ⟨lo, lc, rfl⟩ := hL.form
      have HL := Lib.hid hL
      have hle := hL.le
      have hfew := hL.few
      have how := hL.own
      clear hL
      by_cases hlt : i < s.length
      · by_cases hc : s[i] = 32
        · have g : (((s[i]'hlt).toNat : Int) == 32) = true := by rw [hc]; rfl
          have HC := Lib.hid hc
          have hsz : base ≤ wr.heap.size := by have := HL.out.kept.size; have := HBASE.out; omega
          clear hc
          go_wp2_with (at_builtin; refine wpList_append_lies _ rfl _ _ _ rfl base 9 i0 _ 1 16 Tryd.underlying22 hi0 hz0 hz1 hz2 rfl (by omega) _ ws.length _ (by rfl) (how.alloc _) ⟨wr.heap.size, 0, none⟩ 1 1 (strCells ((s.drop a).take (i - a))) (by rfl) (by rfl) (World.news_of_block (cs := (strCells ((s.drop a).take (i - a))).toArray) (t := 9) (fr := (0, 0)) (heap_alloc_new wr _)) (by simp [strCells, Value.oneCell']) (by omega) (by unfold maxLen; omega) (by omega) (by simp; omega) (wr.heap.size + 1) (by simp) ?_; intro gg cap w4 hown4 hgrow4 hat4 hlt4)
          go_roundw
          case measure => simp [intOf]; omega
          case rel =>
            refine ⟨i + 1, i + 1, ws ++ [(s.drop a).take (i - a)], by omega, by go_num, by go_num, ?_, (HL.out.kept.alloc _).grown hgrow4 (fun k hk => .inr (by have := (HL.out.own.lt k hk).1; have := HBASE.out; omega)), by omega, ?_, fun j _ h1 h2 => by omega, by simp; omega⟩
            · rw [List.map_append, List.flatten_append, List.map_singleton, List.flatten_singleton, List.length_append]; exact hown4
            · rw [HL.out.words, splitB_next HL.out.le hlt HL.out.plain HC.out]; simp
        · have g : (((s[i]'hlt).toNat : Int) == 32) = false := by
            simp only [beq_eq_false_iff_ne, ne_eq]
            intro h
            exact hc (UInt8.toNat_inj.1 (by have e32 : (32 : UInt8).toNat = 32 := rfl; omega))
          have HC := Lib.hid hc
          clear hc
          go_wp2_with fail
          go_roundw
          case measure => simp [intOf]; omega
          case rel =>
            refine ⟨a, i + 1, ws, by omega, rfl, by go_num, HL.out.own, HL.out.kept, by omega, HL.out.words, fun j hj h1 h2 => ?_, by omega⟩
            by_cases hji : j = i
            · subst hji; exact HC.out
            · exact HL.out.plain j hj h1 (by omega)
      · obtain rfl : i = s.length := by omega
        go_wp2_with fail
        go_meet
        case rel => exact ⟨a, ws, rfl, hle, HL.out⟩
  case rest =>
    obtain ⟨a, ws, rfl, hal, hL⟩ := hcut
    obtain ⟨lo, lc, rfl⟩ := hL.form
    have HL := Lib.hid hL
    have hfew := hL.few
    have how := hL.own
    have hsz : base ≤ wc.heap.size := by have := hL.kept.size; have := HBASE.out; omega
    clear hL
    go_wp2_with (at_builtin; refine wpList_append_lies _ rfl _ _ _ rfl base 9 i0 _ 1 16 Tryd.underlying22 hi0 hz0 hz1 hz2 rfl (by omega) _ ws.length _ (by rfl) (how.alloc _) ⟨wc.heap.size, 0, none⟩ 1 1 (strCells (s.drop a)) (by rfl) (by rfl) (World.news_of_block (cs := (strCells (s.drop a)).toArray) (t := 9) (fr := (0, 0)) (heap_alloc_new wc _)) (by simp [strCells, Value.oneCell']) (by omega) (by unfold maxLen; omega) (by omega) (by simp; omega) (wc.heap.size + 1) (by simp) ?_; intro gg cap w4 hown4 hgrow4 hat4 hlt4)
    go_ret
    have hw : R = ws ++ [s.drop a] := by
      rw [← HR.out, HL.out.words, splitB_done]
      intro c hc
      obtain ⟨j, hj, rfl⟩ := List.mem_iff_getElem.1 hc
      simp only [List.length_drop] at hj
      simp only [List.getElem_drop]
      exact HL.out.plain (a + j) (by omega) (by omega) (by omega)
    have K := (HL.out.kept.alloc (.cells #[.string (str (s.drop a))] 9 (0, 0))).grown hgrow4 (fun k hk => .inr (by have := (HL.out.own.lt k hk).1; have := HBASE.out; omega))
    have e : ((ws.map strCells).flatten ++ strCells (s.drop a)) = (R.map strCells).flatten := by rw [hw]; simp
    rw [e] at hown4
    refine ⟨_, rfl, K.below, rowsAt_of_owns str_rows (by rw [hw]; simp) hown4, fun k hk => ⟨by have := (hown4.lt k hk).1; have := HBASE.out; omega, (hown4.lt k hk).2⟩⟩
end Go.Proofs.YtplbdlgmjehckaaDoor
