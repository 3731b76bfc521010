/-
  Lemmas for the claims of this seat: the program's functions walked, and plain laws. In this order: R3Words R3All R3Touch RfWalk RfName RfNm RfStep.
-/
import Derived.Test.YtplbdlgmjehckabGreatDoorPk1
import Derived.Test.YtplbdlgmjehckabGreatDoorPk3
import Derived.Test.YtplbdlgmjehckabGreatDoorPk4
import Derived.Deep.DeepCutAuto
import Derived.Deep.CutBlock
import Derived.Deep.Light
import Derived.Deep.LoopGhost
import Derived.Deep.RegionHeld3
import Derived.Test.YtplbdlgmjehckabGreatDoorPk8
import Derived.Test.YtplbdlgmjehckabGreatDoorPk12
import Derived.Test.YtplbdlgmjehckabGreatDoorPk5
import Derived.Deep.RegionHeld2
namespace Go.Proofs.YtplbdlgmjehckabGreatDoor
open Go.RowKit
set_option linter.unusedVariables false
set_option linter.unusedSimpArgs false
theorem splitB_done {s : B} {a : Nat} (h : ∀ c ∈ s.drop a, c ≠ 32) : splitB (s.drop a) = [s.drop a] := splitB_last h
theorem splitB_next {s : B} {a i : Nat} (ha : a ≤ i) (hi : i < s.length) (h : ∀ j (hj : j < s.length), a ≤ j → j < i → s[j] ≠ 32) (hb : s[i] = 32) : splitB (s.drop a) = (s.drop a).take (i - a) :: splitB (s.drop (i + 1)) := by
  have e : s.drop a = (s.drop a).take (i - a) ++ (32 :: s.drop (i + 1)) := by
    have h1 : (s.drop a).drop (i - a) = 32 :: s.drop (i + 1) := by
      rw [List.drop_drop, show a + (i - a) = i from by omega, List.drop_eq_getElem_cons hi, hb]
    rw [← h1, List.take_append_drop]
  conv => lhs; rw [e]
  refine splitB_word (fun c hc => ?_) _
  obtain ⟨j, hj, rfl⟩ := List.mem_iff_getElem.1 hc
  simp only [List.length_take, List.length_drop] at hj
  simp only [List.getElem_take, List.getElem_drop]
  exact h (a + j) (by omega) (by omega) (by omega)
structure WLoop (w wr : World) (base : Nat) (s : B) (l : Value) (ws : List B) (a i : Nat) : Prop where
  own : wr.ownsRow base 9 1 l ws.length (ws.map strCells).flatten
  kept : Kept (fun _ => False) w wr
  le : a ≤ i
  words : splitB s = ws ++ splitB (s.drop a)
  plain : ∀ j (hj : j < s.length), a ≤ j → j < i → s[j] ≠ 32
  few : ws.length ≤ i
theorem WLoop.form {w wr : World} {base : Nat} {s : B} {l : Value} {ws : List B} {a i : Nat} (h : WLoop w wr base s l ws a i) : ∃ vo vc, l = .slice vo ws.length vc := by
  rcases h.own.2 with ⟨h, hn⟩ | ⟨g, cap, cur, h, _⟩
  · exact ⟨none, 0, by rw [h, hn]⟩
  · exact ⟨_, cap, h⟩
theorem info_str2 : (Tryz.prog.info? 9).map (fun i => (i.zero, i.size, i.bytes)) = some (some (.string ⟨#[]⟩), 1, 16) := by kernel_rfl
theorem str_rows {ws : List B} : ∀ r ∈ ws.map strCells, r.length = 1 := by
  intro r hr
  obtain ⟨a, _, rfl⟩ := List.mem_map.1 hr
  rfl
set_option maxRecDepth 100000 in
set_option maxHeartbeats 1600000 in
theorem words_any (s : B) (w : World) (hl : s.length ≤ 1048576) :
    Calls Tryz.prog 69 #[.string (str s)] w fun e w' => ∃ v, e = .returned v ∧ Below w.heap.size w w' ∧ RowsAt w' 1 v ((splitB s).map strCells) ∧ ∀ k, v.ownBlock = some k → w.heap.size ≤ k ∧ k < w'.heap.size := by
  obtain ⟨base, HBASE⟩ : ∃ base, Hid (w.heap.size = base) := ⟨_, rfl⟩
  obtain ⟨R, HR⟩ : ∃ R, Hid (splitB s = R) := ⟨_, rfl⟩
  rw [HR.out]
  obtain ⟨i0, hi0, hz0, hz1, hz2⟩ := info_parts info_str2
  go_enter Tryz.func69, Tryz.ntmps69
  go_upto_block 0 with fail
  go_cut [3, 4] (fun l x wx => ∃ (a : Nat) (ws : List B), x = .int .i64 a ∧ a ≤ s.length ∧ WLoop w wx base s l ws a s.length)
  case first =>
    go_wp2_with fail
    go_loopw [3, 4, 8] (fun l x i wr => ∃ (a k : Nat) (ws : List B), k ≤ s.length ∧ x = .int .i64 a ∧ i = .int .i64 k ∧ WLoop w wr base s l ws a k) (fun _ _ i _ => s.length - (intOf i).toNat)
    case atStart => exact ⟨0, 0, [], by omega, rfl, rfl, World.ownsRow_nil _ _ _ _, Kept.refl _ _, by omega, by simp, fun j _ _ h => by omega, by simp⟩
    case round =>
      obtain ⟨a, i, ws, hi, rfl, rfl, hL⟩ := hrel
      obtain ⟨lo, lc, rfl⟩ := hL.form
      have HL := Lib.hid hL
      have hle := hL.le
      have hfew := hL.few
      have how := hL.own
      clear hL
      by_cases hlt : i < s.length
      · by_cases hc : s[i] = 32
        · have g : (((s[i]'hlt).toNat : Int) == 32) = true := by rw [hc]; rfl
          have HC := Lib.hid hc
          have hsz : base ≤ wr.heap.size := by have := HL.out.kept.size; have := HBASE.out; omega
          clear hc
          go_wp2_with (at_builtin; refine wpList_append_lies _ rfl _ _ _ rfl base 9 i0 _ 1 16 Tryz.underlying24 hi0 hz0 hz1 hz2 rfl (by omega) _ ws.length _ (by rfl) (how.alloc _) ⟨wr.heap.size, 0, none⟩ 1 1 (strCells ((s.drop a).take (i - a))) (by rfl) (by rfl) (World.news_of_block (cs := (strCells ((s.drop a).take (i - a))).toArray) (t := 9) (fr := (0, 0)) (heap_alloc_new wr _)) (by simp [strCells, Value.oneCell']) (by omega) (by unfold maxLen; omega) (by omega) (by simp; omega) (wr.heap.size + 1) (by simp) ?_; intro gg cap w4 hown4 hgrow4 hat4 hlt4)
          go_roundw
          case measure => simp [intOf]; omega
          case rel =>
            refine ⟨i + 1, i + 1, ws ++ [(s.drop a).take (i - a)], by omega, by go_num, by go_num, ?_, (HL.out.kept.alloc _).grown hgrow4 (fun k hk => .inr (by have := (HL.out.own.lt k hk).1; have := HBASE.out; omega)), by omega, ?_, fun j _ h1 h2 => by omega, by simp; omega⟩
            · rw [List.map_append, List.flatten_append, List.map_singleton, List.flatten_singleton, List.length_append]; exact hown4
            · rw [HL.out.words, splitB_next HL.out.le hlt HL.out.plain HC.out]; simp
        · have g : (((s[i]'hlt).toNat : Int) == 32) = false := by
            simp only [beq_eq_false_iff_ne, ne_eq]
            intro h
            exact hc (UInt8.toNat_inj.1 (by have e32 : (32 : UInt8).toNat = 32 := rfl; omega))
          have HC := Lib.hid hc
          clear hc
          go_wp2_with fail
          go_roundw
          case measure => simp [intOf]; omega
          case rel =>
            refine ⟨a, i + 1, ws, by omega, rfl, by go_num, HL.out.own, HL.out.kept, by omega, HL.out.words, fun j hj h1 h2 => ?_, by omega⟩
            by_cases hji : j = i
            · subst hji; exact HC.out
            · exact HL.out.plain j hj h1 (by omega)
      · obtain rfl : i = s.length := by omega
        go_wp2_with fail
        go_meet
        case rel => exact ⟨a, ws, rfl, hle, HL.out⟩
  case rest =>
    obtain ⟨a, ws, rfl, hal, hL⟩ := hcut
    obtain ⟨lo, lc, rfl⟩ := hL.form
    have HL := Lib.hid hL
    have hfew := hL.few
    have how := hL.own
    have hsz : base ≤ wc.heap.size := by have := hL.kept.size; have := HBASE.out; omega
    clear hL
    go_wp2_with (at_builtin; refine wpList_append_lies _ rfl _ _ _ rfl base 9 i0 _ 1 16 Tryz.underlying24 hi0 hz0 hz1 hz2 rfl (by omega) _ ws.length _ (by rfl) (how.alloc _) ⟨wc.heap.size, 0, none⟩ 1 1 (strCells (s.drop a)) (by rfl) (by rfl) (World.news_of_block (cs := (strCells (s.drop a)).toArray) (t := 9) (fr := (0, 0)) (heap_alloc_new wc _)) (by simp [strCells, Value.oneCell']) (by omega) (by unfold maxLen; omega) (by omega) (by simp; omega) (wc.heap.size + 1) (by simp) ?_; intro gg cap w4 hown4 hgrow4 hat4 hlt4)
    go_ret
    have hw : R = ws ++ [s.drop a] := by
      rw [← HR.out, HL.out.words, splitB_done]
      intro c hc
      obtain ⟨j, hj, rfl⟩ := List.mem_iff_getElem.1 hc
      simp only [List.length_drop] at hj
      simp only [List.getElem_drop]
      exact HL.out.plain (a + j) (by omega) (by omega) (by omega)
    have K := (HL.out.kept.alloc (.cells #[.string (str (s.drop a))] 9 (0, 0))).grown hgrow4 (fun k hk => .inr (by have := (HL.out.own.lt k hk).1; have := HBASE.out; omega))
    have e : ((ws.map strCells).flatten ++ strCells (s.drop a)) = (R.map strCells).flatten := by rw [hw]; simp
    rw [e] at hown4
    refine ⟨_, rfl, K.below, rowsAt_of_owns str_rows (by rw [hw]; simp) hown4, fun k hk => ⟨by have := (hown4.lt k hk).1; have := HBASE.out; omega, (hown4.lt k hk).2⟩⟩
end Go.Proofs.YtplbdlgmjehckabGreatDoor

namespace Go.Proofs.YtplbdlgmjehckabGreatDoor
open Go.RowKit
set_option linter.unusedVariables false
set_option linter.unusedSimpArgs false
def rpairV (a b : B) : Value := .agg #[.string (str a), .string (str b)]
def rpairCells (a b : B) : List Value := [.string (str a), .string (str b)]
def four : List B → Option (B × B × B × B)
  | [a] => some (a, a, a, a)
  | [a, b] => some (a, b, a, b)
  | [a, b, c] => some (a, b, c, b)
  | [a, b, c, d] => some (a, b, c, d)
  | _ => none
theorem rexpand_four {d : PDecl} {L : List B} (hn : d.name = edgeName) (hL : splitB d.val = L) : pExpand d = (four L).map fun x => edges x.1 x.2.1 x.2.2.1 x.2.2.2 d.strong := by
  unfold pExpand
  rw [if_pos hn, hL]
  match L with
  | [] => rfl
  | [a] => rfl
  | [a, b] => rfl
  | [a, b, c] => rfl
  | [a, b, c, e] => rfl
  | a :: b :: c :: e :: x :: L => rfl
def edgesBlock (a b c d : B) : Array Value := #[.string (str edgeTop), .string (str a), .string (str edgeRight), .string (str b), .string (str edgeBottom), .string (str c), .string (str edgeLeft), .string (str d)]
theorem edges_at {a b c d : B} (st : Bool) (k : Nat) (hk : k < 4) : ∃ x y, (edgesBlock a b c d)[k * 2]? = some (.string (str x)) ∧ (edgesBlock a b c d)[k * 2 + 1]? = some (.string (str y)) ∧ (edges a b c d st)[k]? = some ⟨x, y, st⟩ := by
  match k, hk with
  | 0, _ => exact ⟨_, _, rfl, rfl, rfl⟩
  | 1, _ => exact ⟨_, _, rfl, rfl, rfl⟩
  | 2, _ => exact ⟨_, _, rfl, rfl, rfl⟩
  | 3, _ => exact ⟨_, _, rfl, rfl, rfl⟩
structure QLoop (w wr : World) (base c d : Nat) (oc od : Obj) (l : Value) (n : Nat) (xs : List PDecl) (k : Nat) (X : List PDecl) : Prop where
  own : wr.ownsRow base 89 3 l (n + k) ((xs ++ X.take k).map declCells).flatten
  kept : Kept (fun _ => False) w wr
  bc : wr.heap[c]? = some oc
  bd : wr.heap[d]? = some od
  ne : l.ownBlock ≠ some c ∧ l.ownBlock ≠ some d
theorem QLoop.form {w wr : World} {base c d n k : Nat} {oc od : Obj} {l : Value} {xs X : List PDecl} (h : QLoop w wr base c d oc od l n xs k X) : ∃ vo vc, l = .slice vo (n + k) vc := by
  rcases h.own.2 with ⟨h, hn⟩ | ⟨g, cap, cur, h, _⟩
  · exact ⟨none, 0, by rw [h, hn]⟩
  · exact ⟨_, cap, h⟩
set_option maxRecDepth 100000 in
set_option maxHeartbeats 3200000 in
theorem rall_any (w : World) (v : Value) (ds : List PDecl) (h : DeclsAt w v ds) (hN : ds.length ≤ 5000000) (hone : ∀ d ∈ ds, d.val.length ≤ 1048576) :
    Calls Tryz.prog 35 #[v] w (AllEnds w (pAll ds)) := by
  obtain ⟨av, cv, rfl, hcv1, hcv2⟩ := h.form
  unfold maxLen at hcv2
  obtain ⟨base, HBASE⟩ : ∃ base, Hid (w.heap.size = base) := ⟨_, rfl⟩
  obtain ⟨R, HR⟩ : ∃ R, Hid (pAll ds = R) := ⟨_, rfl⟩
  rw [HR.out]
  obtain ⟨i0, hi0, hz0, hz1, hz2⟩ := info_parts info_decl
  have H := Lib.hid h
  have HONE := Lib.hid hone
  clear h hone
  go_enter Tryz.func35, Tryz.ntmps35
  go_wp2_with fail
  go_loopw [4, 16] (fun l i wr => ∃ (k n : Nat) (xs : List PDecl), k ≤ ds.length ∧ i = .int .i64 k ∧ ALoop w wr base l ds k n xs) (fun _ i _ => ds.length - (intOf i).toNat)
  case atStart => exact ⟨0, 0, [], by omega, rfl, World.ownsRow_nil _ _ _ _, Kept.refl _ _, rfl, rfl, by omega⟩
  case round =>
    obtain ⟨i, n, xs, hi, rfl, hL⟩ := hrel
    obtain ⟨lo, lc, rfl⟩ := hL.form
    have HL := Lib.hid hL
    obtain ⟨hn1, hn2⟩ := hL.len
    clear hL hn1
    obtain ⟨wr0, hwr0⟩ : ∃ x, x = wr := ⟨_, rfl⟩
    subst hwr0
    by_cases hlt : i < ds.length
    · have hx := List.getElem?_eq_getElem hlt
      generalize hgx : ds[i] = x at hx
      clear hgx
      obtain ⟨b, off, rfl, g0, g1, g2⟩ := DeclsAt.at (decls_firm.kept H.out HL.out.kept) hx
      have hxl := HONE.out x (List.mem_of_getElem? hx)
      have HX := Lib.hid hx
      clear hx
      go_upto_region 5 with fail
      obtain ⟨wa, HWA⟩ : ∃ x', Hid (wr0.alloc (.cells #[.string (str x.name), .string (str x.val), .bool x.strong] 89 (0,0)) = x') := ⟨_, rfl⟩
      have ka : Kept (fun _ => False) w wa := by rw [← HWA.out]; exact HL.out.kept.alloc _
      have how : wa.ownsRow base 89 3 (.slice lo n lc) n (xs.map declCells).flatten := by rw [← HWA.out]; exact HL.out.own.alloc _
      have hn : wa.heap[wr0.heap.size]? = some (.cells #[.string (str x.name), .string (str x.val), .bool x.strong] 89 (0,0)) := by rw [← HWA.out]; exact newIn wr0 _
      have n0 : wa.cell? ⟨wr0.heap.size, 0, none⟩ = some (.string (str x.name)) := cellIn hn 0 rfl
      have n1 : wa.cell? ⟨wr0.heap.size, 1, none⟩ = some (.string (str x.val)) := cellIn hn 1 rfl
      have n2 : wa.cell? ⟨wr0.heap.size, 2, none⟩ = some (.bool x.strong) := cellIn hn 2 rfl
      have hsz : base ≤ wa.heap.size := by have := ka.size; have := HBASE.out; omega
      have KA := Lib.hid ka
      have HOW := Lib.hid how
      have HN := Lib.hid hn
      clear ka g0 g1 g2 hn
      rw [HWA.out]
      by_cases hed : x.name = edgeName
      · have g : (x.name == [101, 100, 103, 101]) = true := by rw [hed]; rfl
        have HED := Lib.hid hed
        clear hed how
        go_wp2_with fail
        refine (words_any x.val wa hxl).mono ?_
        rintro e w2 ⟨v2, rfl, hb2, hr2, ho2⟩
        obtain ⟨L, HLL⟩ : ∃ L, Hid (splitB x.val = L) := ⟨_, rfl⟩
        rw [HLL.out] at hr2
        have hne : L ≠ [] := by rw [← HLL.out]; exact splitB_ne _
        obtain ⟨yb, yo, cap2, rfl, hc1, hc2, hcell⟩ : ∃ yb yo cap2, v2 = .slice (some ⟨yb, yo, none⟩) L.length cap2 ∧ L.length ≤ cap2 ∧ cap2 ≤ maxLen ∧ ∀ j y, L[j]? = some y → w2.cell? ⟨yb, yo + j, none⟩ = some (.string (str y)) := by
          obtain ⟨a, cap, rfl, h1, h2, h3⟩ := hr2
          obtain ⟨yb, yo, rfl, h4⟩ := h3 (by simpa using hne)
          exact ⟨yb, yo, cap, by rw [List.length_map], by simpa using h1, h2, fun j y hy => by simpa using h4 j (strCells y) (by simp [hy]) 0 _ rfl⟩
        unfold maxLen at hc2
        have k2 := KA.out.trans (Kept.of_below (S := fun _ => False) hb2)
        have hn2' := (Kept.of_below (S := fun _ => False) hb2).heap id HN.out
        have how2 := owns_kept HOW.out (Kept.of_below (S := fun _ => False) hb2) (fun _ _ => id)
        have hsz2 : base ≤ w2.heap.size := by have := hb2.size; omega
        have K2 := Lib.hid k2
        have HN2 := Lib.hid hn2'
        have HOW2 := Lib.hid how2
        have HC := Lib.hid hcell
        clear k2 hn2' how2 hcell hr2 ho2 hb2 n0 n1 n2
        have hEX := Lib.hid (rexpand_four HED.out HLL.out)
        cases h4 : four L with
        | none =>
          have hl5 : 4 < (L.length : Int) := by
            match L, hne, h4 with
            | a :: b :: c :: e :: y :: L, _, _ => simp; omega
          have hR : Hid (R = none) := Lib.hid (by
            have := all_take HX.out HL.out.all
            rw [hEX.out, h4] at this
            rw [← HR.out]; exact all_none_take this)
          clear h4
          go_wp2_with fail
          refine bodyPost_ret (v := .tuple #[.slice none 0 0, .int .i64 5]) (by simp [results, Tryz.results35, go_sem]) rfl ?_
          rw [hR.out]
          exact ⟨rfl, K2.out.below⟩
        | some t =>
          obtain ⟨ta, tb, tc, td⟩ := t
          have hT : Hid (pAll (ds.take (i + 1)) = some (xs ++ edges ta tb tc td x.strong)) := Lib.hid (by
            have := all_take HX.out HL.out.all
            rw [hEX.out, h4] at this
            exact this)
          have H4 := Lib.hid h4
          clear h4
          have hl4 : L.length ≤ 4 := by
            match L, hne, H4.out with
            | [a], _, _ => simp
            | [a, b], _, _ => simp
            | [a, b, c], _, _ => simp
            | [a, b, c, d], _, _ => simp
          have hl0 : 0 < L.length := List.length_pos_iff.2 hne
          have r0 : w2.cell? ⟨yb, yo, none⟩ = some (.string (str ta)) := by
            have := HC.out 0 ta (by
              match L, hne, H4.out with
              | [a], _, h => cases h; rfl
              | [a, b], _, h => cases h; rfl
              | [a, b, c], _, h => cases h; rfl
              | [a, b, c, d], _, h => cases h; rfl)
            simpa using this
          have r1 : w2.cell? ⟨yb, yo + min 1 (L.length - 1), none⟩ = some (.string (str tb)) := HC.out (min 1 (L.length - 1)) tb (by
              match L, hne, H4.out with
              | [a], _, h => cases h; rfl
              | [a, b], _, h => cases h; rfl
              | [a, b, c], _, h => cases h; rfl
              | [a, b, c, d], _, h => cases h; rfl)
          have r1' : w2.cell? ⟨yb, yo + (min 1 ((L.length : Int) - 1)).toNat, none⟩ = some (.string (str tb)) := by
            rw [show (min 1 ((L.length : Int) - 1)).toNat = min 1 (L.length - 1) from by omega]; exact r1
          have r2 : 2 < L.length → w2.cell? ⟨yb, yo + 2, none⟩ = some (.string (str tc)) := fun hl => HC.out 2 tc (by
              match L, hl, H4.out with
              | [a, b, c], _, h => cases h; rfl
              | [a, b, c, d], _, h => cases h; rfl)
          have r3 : 3 < L.length → w2.cell? ⟨yb, yo + 3, none⟩ = some (.string (str td)) := fun hl => HC.out 3 td (by
              match L, hl, H4.out with
              | [a, b, c, d], _, h => cases h; rfl)
          have e2 : Hid (¬ 2 < L.length → tc = ta) := Lib.hid (by
              match L, hne, H4.out with
              | [a], _, h => cases h; intro _; rfl
              | [a, b], _, h => cases h; intro _; rfl
              | [a, b, c], _, h => simp
              | [a, b, c, d], _, h => simp)
          have e3 : Hid (¬ 3 < L.length → td = tb) := Lib.hid (by
              match L, hne, H4.out with
              | [a], _, h => cases h; intro _; rfl
              | [a, b], _, h => cases h; intro _; rfl
              | [a, b, c], _, h => cases h; intro _; rfl
              | [a, b, c, d], _, h => simp)
          have R2 := Lib.hid r2
          have R3 := Lib.hid r3
          clear r1 r2 r3
          go_upto_if 47 with fail
          go_cut [10] (fun u wx => u = .string (str tc) ∧ wx = w2)
          case first =>
            by_cases h2 : 2 < L.length
            · have r2 := R2.out h2
              clear r0 r1'
              go_wp2_with fail
              go_meet
              case rel => exact ⟨rfl, rfl⟩
            · have h2' : ¬ 2 < (L.length : Int) := by omega
              have HE := Lib.hid (e2.out h2)
              go_wp2_with fail
              go_meet
              case rel => exact ⟨by rw [HE.out], rfl⟩
          case rest =>
            obtain ⟨rfl, rfl⟩ := hcut
            clear r0 r1'
            go_upto_if 53 with fail
            go_cut [11] (fun u wx => u = .string (str td) ∧ wx = wc)
            case first =>
              by_cases h2 : 3 < L.length
              · have r2 := R3.out h2
                go_wp2_with fail
                go_meet
                case rel => exact ⟨rfl, rfl⟩
              · have h2' : ¬ 3 < (L.length : Int) := by omega
                have HE := Lib.hid (e3.out h2)
                go_wp2_with fail
                go_meet
                case rel => exact ⟨by rw [HE.out], rfl⟩
            case rest =>
              obtain ⟨rfl, rfl⟩ := hcut
              go_upto_block 2 with fail
              obtain ⟨wb, HWB⟩ : ∃ y, Hid (wc.alloc (.cells #[.string ⟨#[101, 100, 103, 101, 45, 116, 111, 112]⟩, .string (str ta), .string ⟨#[101, 100, 103, 101, 45, 114, 105, 103, 104, 116]⟩, .string (str tb), .string ⟨#[101, 100, 103, 101, 45, 98, 111, 116, 116, 111, 109]⟩, .string (str tc), .string ⟨#[101, 100, 103, 101, 45, 108, 101, 102, 116]⟩, .string (str td)] 150 (0, 0)) = y) := ⟨_, rfl⟩
              have hB : wb.heap[wc.heap.size]? = some (.cells (edgesBlock ta tb tc td) 150 (0, 0)) := by rw [← HWB.out]; exact newIn wc _
              have kB : Kept (fun _ => False) wc wb := by rw [← HWB.out]; exact (Kept.refl _ wc).alloc _
              have howB : wb.ownsRow base 89 3 (.slice lo n lc) n (xs.map declCells).flatten := by rw [← HWB.out]; exact HOW2.out.alloc _
              have HB := Lib.hid hB
              have KB := Lib.hid kB
              have HNB := Lib.hid (kB.heap id HN2.out)
              have HOWB := Lib.hid howB
              obtain ⟨Y, HY⟩ : ∃ y, Hid (edges ta tb tc td x.strong = y) := ⟨_, rfl⟩
              have HF : Hid (∀ k, k < 4 → ∃ x' y, (edgesBlock ta tb tc td)[k * 2]? = some (.string (str x')) ∧ (edgesBlock ta tb tc td)[k * 2 + 1]? = some (.string (str y)) ∧ Y[k]? = some ⟨x', y, x.strong⟩) := Lib.hid (by rw [← HY.out]; exact edges_at x.strong)
              have HY4 : Hid (Y.length = 4) := Lib.hid (by rw [← HY.out]; rfl)
              rw [HY.out] at hT
              rw [HWB.out]
              clear hB kB howB
              go_wp2_with fail
              go_loopw [4, 67] (fun l i wy => ∃ k : Nat, k ≤ 4 ∧ i = .int .i64 k ∧ QLoop w wy base wc.heap.size wr0.heap.size (.cells (edgesBlock ta tb tc td) 150 (0, 0)) (.cells #[.string (str x.name), .string (str x.val), .bool x.strong] 89 (0,0)) l n xs k Y) (fun _ i _ => 4 - (intOf i).toNat)
              case atStart =>
                refine ⟨0, by omega, rfl, by simpa using HOWB.out, K2.out.trans KB.out, HB.out, HNB.out, fun h => ?_, fun h => ?_⟩
                · have := (HOW2.out.lt _ h).2; omega
                · have := (HL.out.own.lt _ h).2; omega
              case round =>
                obtain ⟨k, hk, rfl, hQ⟩ := hrel
                obtain ⟨lo2, lc2, rfl⟩ := hQ.form
                have HQ := Lib.hid hQ
                have how := hQ.own
                clear hQ
                by_cases hk4 : k < 4
                · obtain ⟨x', y, hx', hy, hY⟩ := HF.out k hk4
                  have q0 : wr.cell? ⟨wc.heap.size, k * 2, none⟩ = some (.string (str x')) := cellIn HQ.out.bc _ hx'
                  have q1 : wr.cell? ⟨wc.heap.size, k * 2 + 1, none⟩ = some (.string (str y)) := cellIn HQ.out.bc _ hy
                  have HYK := Lib.hid hY
                  have hsz3 : base ≤ wr.heap.size := by have := HQ.out.kept.size; have := HBASE.out; omega
                  have hnx := HQ.out.bd
                  have HNX := Lib.hid hnx
                  clear hx' hy hY hnx
                  go_upto_region 20 with fail
                  obtain ⟨wp, HWP⟩ : ∃ z, Hid (wr.alloc (.cells #[.string (str x'), .string (str y)] 150 (0, 0)) = z) := ⟨_, rfl⟩
                  have hP : wp.heap[wr.heap.size]? = some (.cells #[.string (str x'), .string (str y)] 150 (0, 0)) := by rw [← HWP.out]; exact newIn wr _
                  have kP : Kept (fun _ => False) w wp := by rw [← HWP.out]; exact HQ.out.kept.alloc _
                  have howP : wp.ownsRow base 89 3 (.slice lo2 (n + k) lc2) (n + k) ((xs ++ Y.take k).map declCells).flatten := by rw [← HWP.out]; exact HQ.out.own.alloc _
                  have p0 : wp.cell? ⟨wr.heap.size, 0, none⟩ = some (.string (str x')) := cellIn hP 0 rfl
                  have p1 : wp.cell? ⟨wr.heap.size, 1, none⟩ = some (.string (str y)) := cellIn hP 1 rfl
                  have p2 : wp.cell? ⟨wr0.heap.size, 2, none⟩ = some (.bool x.strong) := by
                    rw [← HWP.out]; exact cell_alloc (cellIn HNX.out 2 rfl) _
                  have hsz4 : base ≤ wp.heap.size := by have := kP.size; have := HBASE.out; omega
                  have hbcP : wp.heap[wc.heap.size]? = some (.cells (edgesBlock ta tb tc td) 150 (0, 0)) := by rw [← HWP.out]; exact oldIn HQ.out.bc _
                  have hbdP : wp.heap[wr0.heap.size]? = some (.cells #[.string (str x.name), .string (str x.val), .bool x.strong] 89 (0,0)) := by rw [← HWP.out]; exact oldIn HQ.out.bd _
                  have HBC := Lib.hid hbcP
                  have HBD := Lib.hid hbdP
                  clear hbcP hbdP
                  have KP := Lib.hid kP
                  clear hP kP how q0 q1
                  rw [HWP.out]
                  go_wp2_with (at_builtin; refine wpList_append_lies _ rfl _ _ _ rfl base 89 i0 _ 3 40 Tryz.underlying55 hi0 hz0 hz1 hz2 rfl (by omega) _ (n + k) _ (by rfl) (howP.alloc _) ⟨wp.heap.size, 0, none⟩ 1 1 (declCells ⟨x', y, x.strong⟩) (by rfl) (by rfl) (World.news_of_block (cs := (declCells ⟨x', y, x.strong⟩).toArray) (t := 89) (fr := (0, 0)) (heap_alloc_new wp _)) (decl_one _) (by omega) (by unfold maxLen; omega) (by omega) (by simp; omega) (wp.heap.size + 1) (by simp) ?_; intro gg cap w4 hown4 hgrow4 hat4 hlt4)
                  go_roundw
                  case measure => simp [intOf]; omega
                  case rel =>
                    have keep : ∀ (c : Nat) (o : Obj), wp.heap[c]? = some o → (Value.slice lo2 (n + k) lc2).ownBlock ≠ some c → w4.heap[c]? = some o := fun c o h hne =>
                      (hgrow4.block c (by have := ltIn h; simp; omega) (fun e => hne e.symm)).trans (oldIn h _)
                    have gne : ∀ (c : Nat) (o : Obj), wp.heap[c]? = some o → (Value.slice lo2 (n + k) lc2).ownBlock ≠ some c → (Value.slice (some ⟨gg, 0, none⟩) (n + k + 1) cap).ownBlock ≠ some c := fun c o h hne e => by
                      have := ltIn h
                      simp only [Value.ownBlock, Option.some.injEq] at e
                      subst e
                      rcases hat4 with h4 | h4
                      · exact hne h4
                      · omega
                    refine ⟨k + 1, by omega, by go_num, ?_, (KP.out.alloc _).grown hgrow4 (fun j hj => .inr (by have := (howP.lt j hj).1; have := HBASE.out; omega)), keep _ _ HBC.out HQ.out.ne.1, keep _ _ HBD.out HQ.out.ne.2, gne _ _ HBC.out HQ.out.ne.1, gne _ _ HBD.out HQ.out.ne.2⟩
                    rw [List.take_add_one, HYK.out, Option.toList_some, ← List.append_assoc, List.map_append, List.flatten_append, List.map_singleton, List.flatten_singleton]
                    exact hown4
                · obtain rfl : k = 4 := by omega
                  go_wp2_with fail
                  go_roundw
                  case measure => simp [intOf]; omega
                  case rel =>
                    have hY := List.take_of_length_le (i := 4) (Nat.le_of_eq HY4.out)
                    have hown := HQ.out.own
                    rw [hY] at hown
                    refine ⟨i + 1, n + 4, xs ++ Y, by omega, by go_num, hown, HQ.out.kept, hT.out, ?_⟩
                    have := HL.out.len
                    have := HY4.out
                    exact ⟨by rw [List.length_append]; omega, by omega⟩
      · have g : (x.name == [101, 100, 103, 101]) = false := beq_false_of_ne hed
        have hT : Hid (pAll (ds.take (i + 1)) = some (xs ++ [x])) := Lib.hid (by
          have := all_take HX.out HL.out.all
          rw [show pExpand x = some [x] from by unfold pExpand; rw [if_neg hed]] at this
          exact this)
        clear hed
        go_wp2_with (at_builtin; refine wpList_append_lies _ rfl _ _ _ rfl base 89 i0 _ 3 40 Tryz.underlying55 hi0 hz0 hz1 hz2 rfl (by omega) _ n _ (by rfl) (how.alloc _) ⟨wa.heap.size, 0, none⟩ 1 1 (declCells x) (by rfl) (by rfl) (World.news_of_block (cs := (declCells x).toArray) (t := 89) (fr := (0, 0)) (heap_alloc_new wa _)) (decl_one x) (by omega) (by unfold maxLen; omega) (by omega) (by simp; omega) (wa.heap.size + 1) (by simp) ?_; intro gg cap w4 hown4 hgrow4 hat4 hlt4)
        go_roundw
        case measure => simp [intOf]; omega
        case rel =>
          refine ⟨i + 1, n + 1, xs ++ [x], by omega, by go_num, ?_, (KA.out.alloc _).grown hgrow4 (fun k hk => .inr (by have := (HOW.out.lt k hk).1; have := HBASE.out; omega)), hT.out, ?_⟩
          · rw [List.map_append, List.flatten_append, List.map_singleton, List.flatten_singleton]; exact hown4
          · have := HL.out.len
            exact ⟨by rw [List.length_append, List.length_singleton]; omega, by omega⟩
    · obtain rfl : i = ds.length := by omega
      go_wp2_with fail
      refine bodyPost_ret (v := .tuple #[.slice lo n lc, .int .i64 0]) (by simp [results, Tryz.results35, go_sem]) rfl ?_
      have hall := HL.out.all
      rw [List.take_length] at hall
      rw [← HR.out, hall]
      refine ⟨_, rfl, HL.out.kept.below, rowsAt_of_owns decl_rows (by rw [List.length_map]; exact HL.out.len.1) HL.out.own, fun k hk => ⟨fun hx => by have := (HL.out.own.lt k hk).1; have := HBASE.out; omega, (HL.out.own.lt k hk).2⟩⟩
end Go.Proofs.YtplbdlgmjehckabGreatDoor

namespace Go.Proofs.YtplbdlgmjehckabGreatDoor
open Go.RowKit
set_option linter.unusedVariables false
set_option linter.unusedSimpArgs false
set_option maxRecDepth 100000 in
set_option maxHeartbeats 1600000 in
theorem rin_any (x : B) (ss : List B) (w : World) (v : Value) (hv : StrsAt w v ss) : Calls Tryz.prog 33 #[.string (str x), v] w fun e w' => e = .returned (.bool (ss.contains x)) ∧ w' = w := by
  obtain ⟨sa, sc, rfl, hsc1, hsc2⟩ := StrsAt.form hv
  unfold maxLen at hsc2
  have HV := Lib.hid hv
  clear hv
  go_enter Tryz.func33, Tryz.ntmps33
  go_wp2_with fail
  go_loopw [9] (fun c wr => ∃ i : Nat, i ≤ ss.length ∧ c = .int .i64 (i : Int) ∧ wr = w ∧ Hid ((ss.drop i).contains x = ss.contains x)) (fun c _ => ss.length - (intOf c).toNat)
  case atStart => exact ⟨0, by omega, rfl, rfl, Lib.hid rfl⟩
  case round =>
    obtain ⟨i, hi, rfl, rfl, HC⟩ := hrel
    by_cases hlt : i < ss.length
    · have hx := List.getElem?_eq_getElem hlt
      have hdr := List.drop_eq_getElem_cons hlt
      generalize hgx : ss[i] = y at hx hdr
      clear hgx
      obtain ⟨b, off, rfl, g0⟩ := StrsAt.at HV.out hx
      have hc := HC.out
      rw [hdr, List.contains_cons] at hc
      cases hxy : (x == y) with
      | true =>
        have hyx : (y == x) = true := by rw [beq_iff_eq] at hxy ⊢; exact hxy.symm
        rw [hxy, Bool.true_or] at hc
        have HE := Lib.hid hc
        clear hc hx hdr
        go_wp2_with fail
        go_ret
        exact ⟨retb HE.out, rfl⟩
      | false =>
        have hyx : (y == x) = false := by rw [beq_eq_false_iff_ne] at hxy ⊢; exact fun h => hxy h.symm
        rw [hxy, Bool.false_or] at hc
        have HE := Lib.hid hc
        clear hc hx hdr
        go_wp2_with fail
        go_roundw
        case measure => simp [intOf]; omega
        case rel => exact ⟨i + 1, by omega, by go_num, (by first | rfl | trivial), HE⟩
    · obtain rfl : i = ss.length := by omega
      have hc := HC.out
      rw [List.drop_length] at hc
      have HE := Lib.hid hc
      clear hc
      go_wp2_with fail
      go_ret
      exact ⟨retb HE.out, rfl⟩
end Go.Proofs.YtplbdlgmjehckabGreatDoor

namespace Go.Proofs.YtplbdlgmjehckabGreatDoor
open Go.RowKit
set_option linter.unusedVariables false
set_option linter.unusedSimpArgs false
def WkAt (w : World) (b : Nat) (s : B) (at_ : Nat) (f : Flt) (v : Value) : Prop :=
  w.heap[b]? = some (.cells #[.string (str s), .int .i64 (at_ : Int), .int .i64 (f.err : Int), .int .i64 (f.pos : Int), v] 154 (0, 0)) ∧ at_ ≤ s.length ∧ s.length ≤ 6000
def good : Flt := ⟨0, 0⟩
section
variable {w w' : World} {b : Nat} {s : B} {a : Nat} {f : Flt} {v : Value}
theorem WkAt.kept {S : Nat → Prop} (h : WkAt w b s a f v) (hk : Kept S w w') (hs : ¬ S b) : WkAt w' b s a f v := ⟨hk.heap hs h.1, h.2⟩
theorem WkAt.quiet (h : WkAt w b s a f v) (hk : Qt w w') : WkAt w' b s a f v := h.kept (S := fun _ => False) (hk.kept _) id
theorem WkAt.drewN (h : WkAt w b s a f v) (n : Nat) : WkAt (w.drewN n) b s a f v := h
theorem WkAt.alloc (h : WkAt w b s a f v) (o : Obj) : WkAt (w.alloc o) b s a f v := ⟨oldIn h.1 o, h.2⟩
theorem WkAt.set (h : WkAt w b s a f v) {x : Int} {a' : Nat} (hx : x = (a' : Int)) (hl : a' ≤ s.length) : WkAt (w.setCell ⟨b, 1, none⟩ (.int .i64 x)) b s a' f v := by
  refine ⟨?_, hl, h.2.2⟩
  subst hx
  have := setIn h.1 1 (.int .i64 (a' : Int))
  simpa using this
theorem WkAt.bad (h : WkAt w b s a f v) (g : Flt) : WkAt ((w.setCell ⟨b, 2, none⟩ (.int .i64 (g.err : Int))).setCell ⟨b, 3, none⟩ (.int .i64 (g.pos : Int))) b s a g v := by
  refine ⟨?_, h.2⟩
  have := setIn (setIn h.1 2 (.int .i64 (g.err : Int))) 3 (.int .i64 (g.pos : Int))
  simpa using this
theorem WkAt.c0 (h : WkAt w b s a f v) : w.cell? ⟨b, 0, none⟩ = some (.string (str s)) := cellIn h.1 0 rfl
theorem WkAt.c1 (h : WkAt w b s a f v) : w.cell? ⟨b, 1, none⟩ = some (.int .i64 (a : Int)) := cellIn h.1 1 rfl
theorem WkAt.c2 (h : WkAt w b s a f v) : w.cell? ⟨b, 2, none⟩ = some (.int .i64 (f.err : Int)) := cellIn h.1 2 rfl
theorem WkAt.c3 (h : WkAt w b s a f v) : w.cell? ⟨b, 3, none⟩ = some (.int .i64 (f.pos : Int)) := cellIn h.1 3 rfl
theorem WkAt.c4 (h : WkAt w b s a f v) : w.cell? ⟨b, 4, none⟩ = some v := cellIn h.1 4 rfl
theorem WkAt.free (h : WkAt w b s a f v) (k : Nat) : w.frozen? ⟨b, k, none⟩ = false := freeIn h.1 k
theorem WkAt.lt (h : WkAt w b s a f v) : b < w.heap.size := ltIn h.1
end
set_option maxHeartbeats 400000 in
theorem ok_any (w : World) (b : Nat) (s : B) (a : Nat) (f : Flt) (v : Value) (h : WkAt w b s a f v) :
    Calls Tryz.prog 71 #[.pointer (some ⟨b, 0, none⟩)] w fun e w' => e = .returned (.bool ((f.err : Int) == 0)) ∧ w' = w := by
  have h2 := h.c2
  clear h
  go_enter Tryz.func71, Tryz.ntmps71
  go_wp2
  go_ret
  exact ⟨rfl, rfl⟩
theorem ok_is (x : Bool) (w : World) (b : Nat) (s : B) (a : Nat) (f : Flt) (v : Value) (h : WkAt w b s a f v) (hx : ((f.err : Int) == 0) = x) :
    Calls Tryz.prog 71 #[.pointer (some ⟨b, 0, none⟩)] w fun e w' => e = .returned (.bool x) ∧ w' = w := by
  have := ok_any w b s a f v h; rw [hx] at this; exact this
set_option maxHeartbeats 400000 in
theorem stop_good (err pos : Nat) (w : World) (b : Nat) (s : B) (a : Nat) (f : Flt) (v : Value) (h : WkAt w b s a f v) (hf : f.err = 0) :
    Calls Tryz.prog 72 #[.pointer (some ⟨b, 0, none⟩), .int .i64 (err : Int), .int .i64 (pos : Int)] w fun e w' => e = .returned (.tuple #[]) ∧ Kept (· = b) w w' ∧ WkAt w' b s a ⟨err, pos⟩ v := by
  have H := Lib.hid h
  have c2 := h.c2
  have c3 := h.c3
  have f2 := h.free 2
  have f3 := h.free 3
  have hk : ((f.err : Int) == 0) = true := by simp [hf]
  clear h
  go_enter Tryz.func72, Tryz.ntmps72
  go_wp2_with (go_at_call 71; refine (ok_is true _ _ _ _ _ _ H.out hk).mono ?_; rintro e w2 ⟨rfl, rfl⟩)
  go_end0
  exact ⟨rfl, ((Kept.refl (· = b) _).setCell (p := ⟨b, 2, none⟩) (.inl rfl) _).setCell (p := ⟨b, 3, none⟩) (.inl rfl) _, H.out.bad ⟨err, pos⟩⟩
set_option maxHeartbeats 400000 in
theorem stop_dead (err pos : Int) (w : World) (b : Nat) (s : B) (a : Nat) (f : Flt) (v : Value) (h : WkAt w b s a f v) (hf : f.err ≠ 0) :
    Calls Tryz.prog 72 #[.pointer (some ⟨b, 0, none⟩), .int .i64 err, .int .i64 pos] w fun e w' => e = .returned (.tuple #[]) ∧ w' = w := by
  have H := Lib.hid h
  have hk : ((f.err : Int) == 0) = false := by simp; omega
  clear h
  go_enter Tryz.func72, Tryz.ntmps72
  go_wp2_with (go_at_call 71; refine (ok_is false _ _ _ _ _ _ H.out hk).mono ?_; rintro e w2 ⟨rfl, rfl⟩)
  go_end0
  exact ⟨rfl, rfl⟩
theorem prefix_eq (word : B) (s : B) (a : Nat) (h : a + word.length ≤ s.length) : ((s.drop a).take word.length == word) = word.isPrefixOf (s.drop a) := by
  rw [Bool.eq_iff_iff, beq_iff_eq, List.isPrefixOf_iff_prefix, List.prefix_iff_eq_take]
  exact ⟨Eq.symm, Eq.symm⟩
set_option maxHeartbeats 800000 in
theorem on_good (word : B) (x : Bool) (w : World) (b : Nat) (s : B) (a : Nat) (f : Flt) (v : Value) (h : WkAt w b s a f v) (hf : f.err = 0) (hw : word.length ≤ 100) (hx : word.isPrefixOf (s.drop a) = x) :
    Calls Tryz.prog 112 #[.pointer (some ⟨b, 0, none⟩), .string (str word)] w fun e w' => e = .returned (.bool x) ∧ ∃ n, w' = w.drewN n := by
  have H := Lib.hid h
  have c0 := h.c0
  have c1 := h.c1
  have hl := h.2.1
  have hm := h.2.2
  have hk : ((f.err : Int) == 0) = true := by simp [hf]
  clear h
  by_cases hle : a + word.length ≤ s.length
  · have d1 : decide ((a : Int) + (word.length : Int) ≤ (s.length : Int)) = true := by simp; omega
    have he : Hid (((s.drop a).take word.length == word) = x) := Lib.hid (by rw [prefix_eq word s a hle]; exact hx)
    clear hx
    go_enter Tryz.func112, Tryz.ntmps112
    go_wp2
    go_quiet ((go_at_call 71; exact Calls.quiet_of_same (ok_is true _ _ _ _ _ _ H.out hk)))
    go_wp2
    go_ret
    exact ⟨retb he.out, _, rfl⟩
  · have d1 : decide ((a : Int) + (word.length : Int) ≤ (s.length : Int)) = false := by simp; omega
    obtain rfl : x = false := by
      rw [← hx]
      cases hp : word.isPrefixOf (s.drop a) with
      | false => rfl
      | true =>
        have := (List.isPrefixOf_iff_prefix.1 hp).length_le
        rw [List.length_drop] at this
        omega
    clear hx
    go_enter Tryz.func112, Tryz.ntmps112
    go_wp2
    go_quiet ((go_at_call 71; exact Calls.quiet_of_same (ok_is true _ _ _ _ _ _ H.out hk)))
    go_wp2
    go_ret
    exact ⟨rfl, _, rfl⟩
set_option maxHeartbeats 800000 in
theorem on_dead (word : B) (w : World) (b : Nat) (s : B) (a : Nat) (f : Flt) (v : Value) (h : WkAt w b s a f v) (hf : f.err ≠ 0) :
    Calls Tryz.prog 112 #[.pointer (some ⟨b, 0, none⟩), .string (str word)] w fun e w' => e = .returned (.bool false) ∧ ∃ n, w' = w.drewN n := by
  have H := Lib.hid h
  have hk : ((f.err : Int) == 0) = false := by simp; omega
  clear h
  go_enter Tryz.func112, Tryz.ntmps112
  go_wp2
  go_quiet ((go_at_call 71; exact Calls.quiet_of_same (ok_is false _ _ _ _ _ _ H.out hk)))
  go_wp2
  go_ret
  exact ⟨rfl, _, rfl⟩
set_option maxHeartbeats 400000 in
theorem eat_yes (word : B) (w : World) (b : Nat) (s : B) (a : Nat) (f : Flt) (v : Value) (h : WkAt w b s a f v) (hf : f.err = 0) (hw : word.length ≤ 100) (hne : word ≠ []) (hx : word.isPrefixOf (s.drop a) = true) :
    Calls Tryz.prog 116 #[.pointer (some ⟨b, 0, none⟩), .string (str word)] w fun e w' => e = .returned (.bool true) ∧ Kept (· = b) w w' ∧ WkAt w' b s (a + word.length) f v := by
  have H := Lib.hid h
  have hl : a + word.length ≤ s.length := by
    have := (List.isPrefixOf_iff_prefix.1 hx).length_le
    have := List.length_pos_iff.2 hne
    simp only [List.length_drop] at *
    omega
  have hm := h.2.2
  clear h
  go_enter Tryz.func116, Tryz.ntmps116
  go_wp2_with fail
  refine (on_good word true _ _ _ _ _ _ H.out hf hw hx).mono ?_
  rintro e w1 ⟨rfl, n, rfl⟩
  have c1 := H.out.c1
  have f1 := H.out.free 1
  go_wp2_with fail
  go_ret
  exact ⟨rfl, ((Kept.refl (· = b) w).drewN n).setCell (p := ⟨b, 1, none⟩) (.inl rfl) _, (H.out.drewN n).set (by omega) hl⟩
set_option maxHeartbeats 400000 in
theorem eat_no (word : B) (w : World) (b : Nat) (s : B) (a : Nat) (f : Flt) (v : Value) (h : WkAt w b s a f v) (hw : word.length ≤ 100) (hx : f.err = 0 → word.isPrefixOf (s.drop a) = false) :
    Calls Tryz.prog 116 #[.pointer (some ⟨b, 0, none⟩), .string (str word)] w fun e w' => e = .returned (.bool false) ∧ ∃ n, w' = w.drewN n := by
  have hon : Calls Tryz.prog 112 #[.pointer (some ⟨b, 0, none⟩), .string (str word)] w fun e w' => e = .returned (.bool false) ∧ ∃ n, w' = w.drewN n := by
    by_cases hf : f.err = 0
    · exact on_good word false _ _ _ _ _ _ h hf hw (hx hf)
    · exact on_dead word _ _ _ _ _ _ h hf
  have HON := Lib.hid hon
  clear hon h hx
  go_enter Tryz.func116, Tryz.ntmps116
  go_wp2_with fail
  refine HON.out.mono ?_
  rintro e w1 ⟨rfl, n, rfl⟩
  go_wp2_with fail
  go_ret
  exact ⟨rfl, n, rfl⟩
set_option maxHeartbeats 400000 in
theorem need_yes (word : B) (w : World) (b : Nat) (s : B) (a : Nat) (f : Flt) (v : Value) (h : WkAt w b s a f v) (hf : f.err = 0) (hw : word.length ≤ 100) (hne : word ≠ []) (hx : word.isPrefixOf (s.drop a) = true) :
    Calls Tryz.prog 114 #[.pointer (some ⟨b, 0, none⟩), .string (str word)] w fun e w' => e = .returned (.tuple #[]) ∧ Kept (· = b) w w' ∧ WkAt w' b s (a + word.length) f v := by
  have H := Lib.hid h
  clear h
  go_enter Tryz.func114, Tryz.ntmps114
  go_wp2_with fail
  refine (eat_yes word _ _ _ _ _ _ H.out hf hw hne hx).mono ?_
  rintro e w1 ⟨rfl, hk, h1⟩
  have HK := Lib.hid hk
  have H1 := Lib.hid h1
  clear hk h1
  go_wp2_with fail
  go_end0
  exact ⟨rfl, HK.out, H1.out⟩
set_option maxHeartbeats 400000 in
theorem need_no (word : B) (w : World) (b : Nat) (s : B) (a : Nat) (f : Flt) (v : Value) (h : WkAt w b s a f v) (hf : f.err = 0) (hw : word.length ≤ 100) (hx : word.isPrefixOf (s.drop a) = false) :
    Calls Tryz.prog 114 #[.pointer (some ⟨b, 0, none⟩), .string (str word)] w fun e w' => e = .returned (.tuple #[]) ∧ Kept (· = b) w w' ∧ WkAt w' b s a ⟨2, a⟩ v := by
  have H := Lib.hid h
  clear h
  go_enter Tryz.func114, Tryz.ntmps114
  go_wp2_with fail
  refine (eat_no word _ _ _ _ _ _ H.out hw (fun _ => hx)).mono ?_
  rintro e w1 ⟨rfl, n, rfl⟩
  have c1 := H.out.c1
  go_wp2_with (go_at_call 72; refine (stop_good 2 a _ _ _ _ _ _ (H.out.drewN n) hf).mono ?_; rintro e w2 ⟨rfl, hk, h2⟩)
  go_end0
  exact ⟨rfl, ((Kept.refl (· = b) w).drewN n).trans hk, h2⟩
set_option maxHeartbeats 400000 in
theorem need_dead (word : B) (w : World) (b : Nat) (s : B) (a : Nat) (f : Flt) (v : Value) (h : WkAt w b s a f v) (hf : f.err ≠ 0) (hw : word.length ≤ 100) :
    Calls Tryz.prog 114 #[.pointer (some ⟨b, 0, none⟩), .string (str word)] w fun e w' => e = .returned (.tuple #[]) ∧ ∃ n, w' = w.drewN n := by
  have H := Lib.hid h
  clear h
  go_enter Tryz.func114, Tryz.ntmps114
  go_wp2_with fail
  refine (eat_no word _ _ _ _ _ _ H.out hw (fun h => absurd h hf)).mono ?_
  rintro e w1 ⟨rfl, n, rfl⟩
  have c1 := H.out.c1
  go_wp2_with (go_at_call 72; refine (stop_dead 2 a _ _ _ _ _ _ (H.out.drewN n) hf).mono ?_; rintro e w2 ⟨rfl, rfl⟩)
  go_end0
  exact ⟨rfl, n, rfl⟩
end Go.Proofs.YtplbdlgmjehckabGreatDoor

namespace Go.Proofs.YtplbdlgmjehckabGreatDoor
open Go.RowKit
set_option linter.unusedVariables false
set_option linter.unusedSimpArgs false
theorem low_num (c : UInt8) : isLow c = (decide (97 ≤ (c.toNat : Int)) && decide ((c.toNat : Int) ≤ 122)) := by
  unfold isLow; rw [Bool.eq_iff_iff]; simp; omega
set_option maxHeartbeats 400000 in
theorem low_is (c : UInt8) (x : Bool) (w : World) (hx : isLow c = x) : Calls Tryz.prog 16 #[.int .u8 (c.toNat : Int)] w fun e w' => e = .returned (.bool x) ∧ w' = w := by
  rw [low_num] at hx
  have HX := Lib.hid hx
  clear hx
  go_enter Tryz.func16, Tryz.ntmps16
  by_cases h1 : 97 ≤ (c.toNat : Int)
  · by_cases h2 : (c.toNat : Int) ≤ 122
    · go_wp2
      go_ret
      exact ⟨retb (by rw [← HX.out]; simp [h1, h2]), rfl⟩
    · go_wp2
      go_ret
      exact ⟨retb (by rw [← HX.out]; simp [h1, h2]), rfl⟩
  · go_wp2
    go_ret
    exact ⟨retb (by rw [← HX.out]; simp; omega), rfl⟩
theorem more_num (c : UInt8) : isMore c = (isLow c || (decide (48 ≤ (c.toNat : Int)) && decide ((c.toNat : Int) ≤ 57)) || ((c.toNat : Int) == 45)) := by
  have e1 : decide (c.toNat = 45) = ((c.toNat : Int) == 45) := by
    rw [Bool.eq_iff_iff, decide_eq_true_iff, beq_iff_eq]; omega
  have e2 : decide (48 ≤ c.toNat) = decide (48 ≤ (c.toNat : Int)) := by
    rw [Bool.eq_iff_iff, decide_eq_true_iff, decide_eq_true_iff]; omega
  have e3 : decide (c.toNat ≤ 57) = decide ((c.toNat : Int) ≤ 57) := by
    rw [Bool.eq_iff_iff, decide_eq_true_iff, decide_eq_true_iff]; omega
  unfold isMore; rw [e1, e2, e3]
set_option maxHeartbeats 800000 in
theorem more_is (c : UInt8) (x : Bool) (w : World) (hx : isMore c = x) : Calls Tryz.prog 142 #[.int .u8 (c.toNat : Int)] w fun e w' => e = .returned (.bool x) ∧ w' = w := by
  rw [more_num] at hx
  cases hlow : isLow c with
  | true =>
    rw [hlow] at hx
    obtain rfl : x = true := by rw [← hx]; rfl
    clear hx
    go_enter Tryz.func142, Tryz.ntmps142
    go_wp2_with (go_at_call 16; refine (low_is c true _ hlow).mono ?_; rintro e w2 ⟨rfl, rfl⟩)
    go_ret
    exact ⟨rfl, rfl⟩
  | false =>
    rw [hlow] at hx
    have HX := Lib.hid hx
    clear hx
    go_enter Tryz.func142, Tryz.ntmps142
    cases h3 : ((c.toNat : Int) == 45) with
    | true =>
      have h45 : (c.toNat : Int) < 48 := by simp at h3; omega
      go_wp2_with (go_at_call 16; refine (low_is c false _ hlow).mono ?_; rintro e w2 ⟨rfl, rfl⟩)
      go_ret
      exact ⟨retb (by rw [← HX.out]; simp [h3]), rfl⟩
    | false =>
      by_cases h1 : 48 ≤ (c.toNat : Int)
      · by_cases h2 : (c.toNat : Int) ≤ 57
        · go_wp2_with (go_at_call 16; refine (low_is c false _ hlow).mono ?_; rintro e w2 ⟨rfl, rfl⟩)
          go_ret
          exact ⟨retb (by rw [← HX.out]; simp [h1, h2]), rfl⟩
        · go_wp2_with (go_at_call 16; refine (low_is c false _ hlow).mono ?_; rintro e w2 ⟨rfl, rfl⟩)
          go_ret
          exact ⟨retb (by rw [← HX.out, h3]; simp [h1, h2]), rfl⟩
      · go_wp2_with (go_at_call 16; refine (low_is c false _ hlow).mono ?_; rintro e w2 ⟨rfl, rfl⟩)
        go_ret
        exact ⟨retb (by rw [← HX.out, h3]; simp; omega), rfl⟩
def absFind (s word : B) (a : Nat) : Option Nat := (findSub word (s.drop a)).map (a + ·)
theorem absFind_here {s word : B} {a : Nat} (h : word.isPrefixOf (s.drop a) = true) (hl : a < s.length) : absFind s word a = some a := by
  unfold absFind
  rw [List.drop_eq_getElem_cons hl] at h ⊢
  simp only [findSub, h, if_true]
  rfl
theorem absFind_next {s word : B} {a : Nat} (h : word.isPrefixOf (s.drop a) = false) (hl : a < s.length) : absFind s word a = absFind s word (a + 1) := by
  unfold absFind
  rw [List.drop_eq_getElem_cons hl] at h ⊢
  simp only [findSub, h]
  cases findSub word (s.drop (a + 1)) with
  | none => rfl
  | some k => simp; omega
theorem absFind_end {s word : B} {a : Nat} (hl : s.length < a + word.length) (hw : word ≠ []) (ha : a ≤ s.length) : absFind s word a = none := by
  unfold absFind
  cases hf : findSub word (s.drop a) with
  | none => rfl
  | some k =>
    have := findSub_le _ _ _ hf
    rw [List.length_drop] at this
    omega
set_option maxHeartbeats 800000 in
theorem find_any (word : B) (r : Option Nat) (w : World) (b : Nat) (s : B) (a : Nat) (f : Flt) (v : Value) (h : WkAt w b s a f v) (hw : word.length ≤ 100) (hne : word ≠ []) (hx : absFind s word a = r) :
    Calls Tryz.prog 141 #[.pointer (some ⟨b, 0, none⟩), .string (str word)] w fun e w' => e = .returned (.int .i64 (idx r)) ∧ w' = w := by
  have H := Lib.hid h
  have HX := Lib.hid hx
  have c0 := h.c0
  have c1 := h.c1
  have hl := h.2.1
  have hm := h.2.2
  have hw1 : 1 ≤ word.length := List.length_pos_iff.2 hne
  clear h hx
  go_enter Tryz.func141, Tryz.ntmps141
  go_wp2
  go_loop [5] (fun k => ∃ j : Nat, a ≤ j ∧ j ≤ s.length ∧ k = .int .i64 (j : Int) ∧ Hid (absFind s word j = r)) (fun k => s.length - (intOf k).toNat)
  case atStart => exact ⟨a, Nat.le_refl _, hl, rfl, HX⟩
  case round =>
    obtain ⟨j, hj1, hj2, rfl, HJ⟩ := hrel
    by_cases hle : j + word.length ≤ s.length
    · have hjl : j < s.length := by omega
      cases hp : word.isPrefixOf (s.drop j) with
      | true =>
        have he : ((s.drop j).take word.length == word) = true := by rw [prefix_eq word s j hle]; exact hp
        have hr : r = some j := by rw [← HJ.out]; exact absFind_here hp hjl
        clear hp
        go_wp2
        go_ret
        exact ⟨by first | rfl | (rw [hr]; rfl), rfl⟩
      | false =>
        have he : ((s.drop j).take word.length == word) = false := by rw [prefix_eq word s j hle]; exact hp
        have hnext : Hid (absFind s word (j + 1) = r) := Lib.hid (by rw [← HJ.out]; exact (absFind_next hp hjl).symm)
        clear hp
        go_wp2
        go_round
        case rel => exact ⟨j + 1, by omega, by omega, by go_num, hnext⟩
        case measure => simp [intOf]; omega
    · have hr : r = none := by rw [← HJ.out]; exact absFind_end (by omega) hne hj2
      go_wp2
      go_ret
      exact ⟨by first | rfl | (rw [hr]; rfl), rfl⟩
end Go.Proofs.YtplbdlgmjehckabGreatDoor

namespace Go.Proofs.YtplbdlgmjehckabGreatDoor
open Go.RowKit
set_option linter.unusedVariables false
set_option linter.unusedSimpArgs false
def RNameEnds (w : World) (b : Nat) (s : B) (a : Nat) (f : Flt) (v : Value) (long n : Nat) (e : Ending) (w' : World) : Prop :=
  e = .returned (.string (str ((s.drop a).take n))) ∧ Kept (· = b) w w' ∧
    (if f.err ≠ 0 then WkAt w' b s a f v else if n = 0 then WkAt w' b s a ⟨2, a⟩ v else if 20 < n then WkAt w' b s a ⟨long, a⟩ v else WkAt w' b s (a + n) f v)
theorem inName_more {j : Nat} {c : UInt8} (h : inName j c = true) : isMore c = true ∧ (j = 0 → isLow c = true) := by
  unfold inName at h
  split at h
  · exact ⟨by unfold isMore; simp [h], fun _ => h⟩
  · rename_i hj; exact ⟨h, fun hh => absurd hh hj⟩
theorem inName_less {j : Nat} {c : UInt8} (h : inName j c = false) : (isMore c = false) ∨ (j = 0 ∧ isMore c = true ∧ isLow c = false) := by
  unfold inName at h
  split at h
  · cases hm : isMore c with
    | false => exact .inl rfl
    | true => exact .inr ⟨by assumption, rfl, h⟩
  · exact .inl h
set_option maxHeartbeats 1600000 in
theorem rname_walk (long : Nat) (hlong : 0 < long) (w : World) (b : Nat) (s : B) (a : Nat) (f : Flt) (v : Value) (h : WkAt w b s a f v) (n : Nat) (hn : a + n ≤ s.length)
    (hin : ∀ j, j < n → ∃ h : a + j < s.length, inName j (s[a + j]'h) = true) (hout : (h : a + n < s.length) → inName n (s[a + n]'h) = false) :
    Calls Tryz.prog 113 #[.pointer (some ⟨b, 0, none⟩), .int .i64 (long : Int)] w (RNameEnds w b s a f v long n) := by
  have H := Lib.hid h
  have HIN := Lib.hid hin
  have HOUT := Lib.hid hout
  have hl := h.2.1
  have hm := h.2.2
  have c0 := h.c0
  have c1 := h.c1
  have f1 := h.free 1
  clear h hin hout
  go_enter Tryz.func113, Tryz.ntmps113
  go_upto_block 0 with fail
  go_cut [5] (fun k wx => k = .int .i64 ((a + n : Nat) : Int) ∧ wx = w)
  case first =>
    go_wp2_with fail
    go_loop [5] (fun k => ∃ j : Nat, j ≤ n ∧ k = .int .i64 ((a + j : Nat) : Int)) (fun k => s.length - (intOf k).toNat)
    case atStart => exact ⟨0, by omega, rfl⟩
    case round =>
      obtain ⟨j, hj, rfl⟩ := hrel
      by_cases hlt : j < n
      · obtain ⟨h3, h2⟩ := HIN.out j hlt
        obtain ⟨h4, h5⟩ := inName_more h2
        clear h2
        by_cases hj0 : j = 0
        · have h6 := h5 hj0
          subst hj0
          clear h5
          go_wp2_with (first | (go_at_call 142; refine (more_is _ true _ h4).mono ?_; rintro e w2 ⟨rfl, rfl⟩) | (go_at_call 16; refine (low_is _ true _ h6).mono ?_; rintro e w2 ⟨rfl, rfl⟩))
          go_round
          case rel => exact ⟨0 + 1, by omega, by go_num⟩
          case measure => simp [intOf]; omega
        · clear h5
          have h7 : 0 < j := by omega
          go_wp2_with (go_at_call 142; refine (more_is _ true _ h4).mono ?_; rintro e w2 ⟨rfl, rfl⟩)
          go_round
          case rel => exact ⟨j + 1, by omega, by go_num⟩
          case measure => simp [intOf]; omega
      · obtain rfl : j = n := by omega
        by_cases h3 : a + j < s.length
        · rcases inName_less (HOUT.out h3) with h4 | ⟨h7, h4, h5⟩
          · go_wp2_with (go_at_call 142; refine (more_is _ false _ h4).mono ?_; rintro e w2 ⟨rfl, rfl⟩)
            go_meet
            case rel => exact ⟨rfl, rfl⟩
          · subst h7
            go_wp2_with (first | (go_at_call 142; refine (more_is _ true _ h4).mono ?_; rintro e w2 ⟨rfl, rfl⟩) | (go_at_call 16; refine (low_is _ false _ h5).mono ?_; rintro e w2 ⟨rfl, rfl⟩))
            go_meet
            case rel => exact ⟨rfl, rfl⟩
        · go_wp2
          go_meet
          case rel => exact ⟨rfl, rfl⟩
  case rest =>
    obtain ⟨rfl, rfl⟩ := hcut
    go_wp2
    go_quiet (fail)
    have hmin : min n (s.length - a) = n := by omega
    have hk : Hid (Kept (· = b) wc (wc.drewN nq)) := Lib.hid ((Kept.refl (· = b) wc).drewN nq)
    have H1 : Hid (WkAt (wc.drewN nq) b s a f v) := Lib.hid (H.out.drewN nq)
    by_cases h0 : n = 0
    · have e0 : ((s.drop a).take n).isEmpty = true := by rw [h0]; simp
      have hnl : (n : Int) ≤ 20 := by omega
      have H0 := Lib.hid h0
      clear h0
      by_cases hf : f.err = 0
      · have c1q := H1.out.c1
        go_wp2_with fail
        refine (stop_good 2 a _ _ _ _ _ _ H1.out hf).mono ?_
        rintro e w2 ⟨rfl, hk2, h2⟩
        have K2 := Lib.hid (hk.out.trans hk2)
        have H2 := Lib.hid h2
        clear hk2 h2
        go_wp2_with fail
        refine (ok_is false _ _ _ _ _ _ H2.out (by simp)).mono ?_
        rintro e w3 ⟨rfl, rfl⟩
        go_wp2_with fail
        go_ret
        exact ⟨rets rfl, K2.out, by rw [if_neg (by simp [hf]), if_pos H0.out]; exact H2.out⟩
      · have c1q := H1.out.c1
        have hfe : ((f.err : Int) == 0) = false := by simp; omega
        go_wp2_with fail
        refine (stop_dead 2 a _ _ _ _ _ _ H1.out hf).mono ?_
        rintro e w2 ⟨rfl, rfl⟩
        go_wp2_with fail
        refine (ok_is false _ _ _ _ _ _ H1.out hfe).mono ?_
        rintro e w3 ⟨rfl, rfl⟩
        go_wp2_with fail
        go_ret
        exact ⟨rets rfl, hk.out, by rw [if_pos hf]; exact H1.out⟩
    · have e0 : ((s.drop a).take n).isEmpty = false := by
        cases hx : (s.drop a).take n with
        | nil => have := congrArg List.length hx; simp at this; omega
        | cons _ _ => rfl
      by_cases h20 : 20 < n
      · by_cases hf : f.err = 0
        · have c1q := H1.out.c1
          go_wp2_with fail
          refine (stop_good long a _ _ _ _ _ _ H1.out hf).mono ?_
          rintro e w2 ⟨rfl, hk2, h2⟩
          have K2 := Lib.hid (hk.out.trans hk2)
          have H2 := Lib.hid h2
          have hle : ((long : Int) == 0) = false := by simp; omega
          clear hk2 h2
          go_wp2_with fail
          refine (ok_is false _ _ _ _ _ _ H2.out hle).mono ?_
          rintro e w3 ⟨rfl, rfl⟩
          go_wp2_with fail
          go_ret
          exact ⟨rets rfl, K2.out, by rw [if_neg (by simp [hf]), if_neg h0, if_pos h20]; exact H2.out⟩
        · have c1q := H1.out.c1
          have hfe : ((f.err : Int) == 0) = false := by simp; omega
          go_wp2_with fail
          refine (stop_dead long a _ _ _ _ _ _ H1.out hf).mono ?_
          rintro e w2 ⟨rfl, rfl⟩
          go_wp2_with fail
          refine (ok_is false _ _ _ _ _ _ H1.out hfe).mono ?_
          rintro e w3 ⟨rfl, rfl⟩
          go_wp2_with fail
          go_ret
          exact ⟨rets rfl, hk.out, by rw [if_pos hf]; exact H1.out⟩
      · by_cases hf : f.err = 0
        · have hfe : ((f.err : Int) == 0) = true := by simp [hf]
          go_wp2_with fail
          refine (ok_is true _ _ _ _ _ _ H1.out hfe).mono ?_
          rintro e w3 ⟨rfl, rfl⟩
          go_wp2_with fail
          go_ret
          exact ⟨rets rfl, hk.out.setCell (p := ⟨b, 1, none⟩) (.inl rfl) _, by rw [if_neg (by simp [hf]), if_neg h0, if_neg h20]; exact H1.out.set (by omega) hn⟩
        · have hfe : ((f.err : Int) == 0) = false := by simp; omega
          go_wp2_with fail
          refine (ok_is false _ _ _ _ _ _ H1.out hfe).mono ?_
          rintro e w3 ⟨rfl, rfl⟩
          go_wp2_with fail
          go_ret
          exact ⟨rets rfl, hk.out, by rw [if_pos hf]; exact H1.out⟩
theorem rname_any (long : Nat) (hlong : 0 < long) (w : World) (b : Nat) (s : B) (a : Nat) (f : Flt) (v : Value) (h : WkAt w b s a f v) :
    Calls Tryz.prog 113 #[.pointer (some ⟨b, 0, none⟩), .int .i64 (long : Int)] w (RNameEnds w b s a f v long (nameLen (s.drop a))) := by
  have hn := nameLen_le (s.drop a)
  rw [List.length_drop] at hn
  have hl := h.2.1
  refine rname_walk long hlong w b s a f v h _ (by omega) (fun j hj => ?_) (fun hlt => ?_)
  · obtain ⟨h1, h2⟩ := nameLen_in _ _ hj
    refine ⟨by rw [List.length_drop] at h1; omega, ?_⟩
    rw [List.getElem_drop] at h2
    exact h2
  · have h1 : nameLen (s.drop a) < (s.drop a).length := by rw [List.length_drop]; omega
    have := nameLen_out _ h1
    rw [List.getElem_drop] at this
    exact this
end Go.Proofs.YtplbdlgmjehckabGreatDoor

namespace Go.Proofs.YtplbdlgmjehckabGreatDoor
open Go.RowKit
set_option linter.unusedVariables false
set_option linter.unusedSimpArgs false
def Step {α : Type} (f : Flt) (R : Ans α) (f' : Flt) (x : α) : Prop :=
  (f.err ≠ 0 → f' = f) ∧ (f.err = 0 → (f'.err = 0 ∧ R = .ok x) ∨ (f'.err ≠ 0 ∧ R = .bad f'))
theorem Step.dead {α : Type} {f : Flt} {R : Ans α} {x : α} (h : f.err ≠ 0) : Step f R f x := ⟨fun _ => rfl, fun hh => absurd hh h⟩
theorem Step.ok {α : Type} {R : Ans α} {x : α} (h : R = .ok x) : Step good R good x := ⟨fun hh => absurd rfl hh, fun _ => .inl ⟨rfl, h⟩⟩
theorem Step.bad {α : Type} {R : Ans α} {f' : Flt} {x : α} (h : R = .bad f') (hf : f'.err ≠ 0) : Step good R f' x := ⟨fun hh => absurd rfl hh, fun _ => .inr ⟨hf, h⟩⟩
def St {α : Type} (A : Ans α) (f : Flt) (X : Ans α) : Prop := (f.err ≠ 0 → A = .bad f) ∧ (f.err = 0 → A = X)
theorem St.step {α β : Type} {A : Ans α} {f f' : Flt} {R : Ans β} {k : β → Ans α} {x : β} (h : St A f (R.then k)) (hs : Step f R f' x) : St A f' (k x) := by
  refine ⟨fun hf' => ?_, fun hf' => ?_⟩
  · by_cases hf : f.err = 0
    · rcases hs.2 hf with ⟨h1, _⟩ | ⟨_, h2⟩
      · exact absurd h1 hf'
      · rw [h.2 hf, h2]; rfl
    · rw [hs.1 hf]; exact h.1 hf
  · by_cases hf : f.err = 0
    · rcases hs.2 hf with ⟨_, h2⟩ | ⟨h1, _⟩
      · rw [h.2 hf, h2]; rfl
      · exact absurd hf' h1
    · rw [hs.1 hf] at hf'; exact absurd hf' hf
theorem need_gen (word : B) (w : World) (b : Nat) (s : B) (a : Nat) (f : Flt) (v : Value) (h : WkAt w b s a f v) (hg : f.err = 0 → f = good) (hw : word.length ≤ 100) (hne : word ≠ []) :
    Calls Tryz.prog 114 #[.pointer (some ⟨b, 0, none⟩), .string (str word)] w fun e w' => e = .returned (.tuple #[]) ∧ Kept (· = b) w w' ∧
      ∃ f' a', WkAt w' b s a' f' v ∧ (f'.err = 0 → f' = good) ∧ Hid (Step f (pMust word (s.drop a) a) f' (s.drop a', a')) := by
  by_cases hf : f.err = 0
  · cases hx : word.isPrefixOf (s.drop a) with
    | true =>
      refine (need_yes word _ _ _ _ _ _ h hf hw hne hx).mono ?_
      rintro e w1 ⟨rfl, hk, h1⟩
      refine ⟨rfl, hk, f, _, h1, hg, Lib.hid ⟨fun _ => rfl, fun _ => .inl ⟨hf, ?_⟩⟩⟩
      unfold pMust; rw [hx, if_pos rfl, List.drop_drop]
    | false =>
      refine (need_no word _ _ _ _ _ _ h hf hw hx).mono ?_
      rintro e w1 ⟨rfl, hk, h1⟩
      refine ⟨rfl, hk, ⟨2, a⟩, _, h1, fun hh => absurd hh (by simp), Lib.hid ⟨fun hh => absurd hf hh, fun _ => .inr ⟨by simp, ?_⟩⟩⟩
      unfold pMust; rw [hx, if_neg (by simp)]
  · refine (need_dead word _ _ _ _ _ _ h hf hw).mono ?_
    rintro e w1 ⟨rfl, n, rfl⟩
    exact ⟨rfl, (Kept.refl _ w).drewN n, f, a, h.drewN n, hg, Lib.hid ⟨fun _ => rfl, fun hh => absurd hh hf⟩⟩
theorem find_some (word : B) (k : Nat) (w : World) (b : Nat) (s : B) (a : Nat) (f : Flt) (v : Value) (h : WkAt w b s a f v) (hw : word.length ≤ 100) (hne : word ≠ []) (hx : absFind s word a = some k) :
    Calls Tryz.prog 141 #[.pointer (some ⟨b, 0, none⟩), .string (str word)] w fun e w' => e = .returned (.int .i64 (k : Int)) ∧ w' = w := find_any word (some k) w b s a f v h hw hne hx
end Go.Proofs.YtplbdlgmjehckabGreatDoor

