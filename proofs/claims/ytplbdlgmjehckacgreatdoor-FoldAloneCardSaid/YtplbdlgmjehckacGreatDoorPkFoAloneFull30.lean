/-
 Lemmas for the claims of this seat: the program's functions walked, and plain laws. In this order: R3Words R3All R3Touch FoLawAlone.
-/
import Derived.Test.YtplbdlgmjehckacGreatDoorPk4
import Derived.Test.YtplbdlgmjehckacGreatDoorPk9
import Derived.Test.YtplbdlgmjehckacGreatDoorPk13
import Derived.Test.YtplbdlgmjehckacGreatDoorPk14
import Derived.Deep.DeepCutAuto
import Derived.Deep.CutBlock
import Derived.Deep.Light
import Derived.Deep.LoopGhost
import Derived.Deep.RegionHeld3
import Derived.Test.YtplbdlgmjehckacGreatDoorPk16
import Derived.Test.YtplbdlgmjehckacGreatDoorPkFoAloneFull29
import Derived.Test.YtplbdlgmjehckacGreatDoorPk26
import Derived.Test.YtplbdlgmjehckacGreatDoorPkFoAloneFull27
namespace Go.Proofs.YtplbdlgmjehckacGreatDoor
open Go.RowKit
set_option linter.unusedVariables false
set_option linter.unusedSimpArgs false
theorem splitB_done {s : B} {a : Nat} (h : ∀ c ∈ s.drop a, c ≠ 32) : splitB (s.drop a) = [s.drop a] := splitB_last h
theorem splitB_next {s : B} {a i : Nat} (ha : a ≤ i) (hi : i < s.length) (h : ∀ j (hj : j < s.length), a ≤ j → j < i → s[j] ≠ 32) (hb : s[i] = 32) : splitB (s.drop a) = (s.drop a).take (i - a) :: splitB (s.drop (i + 1)) := by
 have e : s.drop a = (s.drop a).take (i - a) ++ (32 :: s.drop (i + 1)) := by
  have h1 : (s.drop a).drop (i - a) = 32 :: s.drop (i + 1) := by
   rw [List.drop_drop, show a + (i - a) = i from by omega, List.drop_eq_getElem_cons hi, hb]
  rw [← h1, List.take_append_drop]
 conv => lhs; rw [e]
 refine splitB_word (fun c hc => ?_) _
 obtain ⟨j, hj, rfl⟩ := List.mem_iff_getElem.1 hc
 simp only [List.length_take, List.length_drop] at hj
 simp only [List.getElem_take, List.getElem_drop]
 exact h (a + j) (by omega) (by omega) (by omega)
structure WLoop (w wr : World) (base : Nat) (s : B) (l : Value) (ws : List B) (a i : Nat) : Prop where
 own : wr.ownsRow base 9 1 l ws.length (ws.map strCells).flatten
 kept : Kept (fun _ => False) w wr
 le : a ≤ i
 words : splitB s = ws ++ splitB (s.drop a)
 plain : ∀ j (hj : j < s.length), a ≤ j → j < i → s[j] ≠ 32
 few : ws.length ≤ i
theorem WLoop.form {w wr : World} {base : Nat} {s : B} {l : Value} {ws : List B} {a i : Nat} (h : WLoop w wr base s l ws a i) : ∃ vo vc, l = .slice vo ws.length vc := by
 rcases h.own.2 with ⟨h, hn⟩ | ⟨g, cap, cur, h, _⟩
 ·exact ⟨none, 0, by rw [h, hn]⟩
 ·exact ⟨_, cap, h⟩
theorem info_str2 : (Tryz.prog.info? 9).map (fun i => (i.zero, i.size, i.bytes)) = some (some (.string ⟨#[]⟩), 1, 16) := by kernel_rfl
theorem str_rows {ws : List B} : ∀ r ∈ ws.map strCells, r.length = 1 := by
 intro r hr
 obtain ⟨a, _, rfl⟩ := List.mem_map.1 hr
 rfl
set_option maxRecDepth 100000 in
set_option maxHeartbeats 1600000 in
theorem words_any (s : B) (w : World) (hl : s.length ≤ 1048576) :
  Calls Tryz.prog 82 #[.string (str s)] w fun e w' => ∃ v, e = .returned v ∧ Below w.heap.size w w' ∧ RowsAt w' 1 v ((splitB s).map strCells) ∧ ∀ k, v.ownBlock = some k → w.heap.size ≤ k ∧ k < w'.heap.size := by
 obtain ⟨base, HBASE⟩ : ∃ base, Hid (w.heap.size = base) := ⟨_, rfl⟩
 obtain ⟨R, HR⟩ : ∃ R, Hid (splitB s = R) := ⟨_, rfl⟩
 rw [HR.out]
 obtain ⟨i0, hi0, hz0, hz1, hz2⟩ := info_parts info_str2
 go_enter Tryz.func82, Tryz.ntmps82
 go_upto_block 0 with fail
 go_cut [3, 4] (fun l x wx => ∃ (a : Nat) (ws : List B), x = .int .i64 a ∧ a ≤ s.length ∧ WLoop w wx base s l ws a s.length)
 case first =>
  go_wp2_with fail
  go_loopw [3, 4, 8] (fun l x i wr => ∃ (a k : Nat) (ws : List B), k ≤ s.length ∧ x = .int .i64 a ∧ i = .int .i64 k ∧ WLoop w wr base s l ws a k) (fun _ _ i _ => s.length - (intOf i).toNat)
  case atStart => exact ⟨0, 0, [], by omega, rfl, rfl, World.ownsRow_nil _ _ _ _, Kept.refl _ _, by omega, by simp, fun j _ _ h => by omega, by simp⟩
  case round =>
   obtain ⟨a, i, ws, hi, rfl, rfl, hL⟩ := hrel
   obtain ⟨lo, lc, rfl⟩ := hL.form
   have HL := Lib.hid hL
   have hle := hL.le
   have hfew := hL.few
   have how := hL.own
   clear hL
   by_cases hlt : i < s.length
   ·by_cases hc : s[i] = 32
    ·have g : (((s[i]'hlt).toNat : Int) == 32) = true := by rw [hc]; rfl
     have HC := Lib.hid hc
     have hsz : base ≤ wr.heap.size := by have := HL.out.kept.size; have := HBASE.out; omega
     clear hc
     go_wp2_with (at_builtin; refine wpList_append_lies _ rfl _ _ _ rfl base 9 i0 _ 1 16 Tryz.underlying58 hi0 hz0 hz1 hz2 rfl (by omega) _ ws.length _ (by rfl) (how.alloc _) ⟨wr.heap.size, 0, none⟩ 1 1 (strCells ((s.drop a).take (i - a))) (by rfl) (by rfl) (World.news_of_block (cs := (strCells ((s.drop a).take (i - a))).toArray) (t := 9) (fr := (0, 0)) (heap_alloc_new wr _)) (by simp [strCells, Value.oneCell']) (by omega) (by unfold maxLen; omega) (by omega) (by simp; omega) (wr.heap.size + 1) (by simp) ?_; intro gg cap w4 hown4 hgrow4 hat4 hlt4)
     go_roundw
     case measure => simp [intOf]; omega
     case rel =>
      refine ⟨i + 1, i + 1, ws ++ [(s.drop a).take (i - a)], by omega, by go_num, by go_num, ?_, (HL.out.kept.alloc _).grown hgrow4 (fun k hk => .inr (by have := (HL.out.own.lt k hk).1; have := HBASE.out; omega)), by omega, ?_, fun j _ h1 h2 => by omega, by simp; omega⟩
      ·rw [List.map_append, List.flatten_append, List.map_singleton, List.flatten_singleton, List.length_append]; exact hown4
      ·rw [HL.out.words, splitB_next HL.out.le hlt HL.out.plain HC.out]; simp
    ·have g : (((s[i]'hlt).toNat : Int) == 32) = false := by
      simp only [beq_eq_false_iff_ne, ne_eq]
      intro h
      exact hc (UInt8.toNat_inj.1 (by have e32 : (32 : UInt8).toNat = 32 := rfl; omega))
     have HC := Lib.hid hc
     clear hc
     go_wp2_with fail
     go_roundw
     case measure => simp [intOf]; omega
     case rel =>
      refine ⟨a, i + 1, ws, by omega, rfl, by go_num, HL.out.own, HL.out.kept, by omega, HL.out.words, fun j hj h1 h2 => ?_, by omega⟩
      by_cases hji : j = i
      ·subst hji; exact HC.out
      ·exact HL.out.plain j hj h1 (by omega)
   ·obtain rfl : i = s.length := by omega
    go_wp2_with fail
    go_meet
    case rel => exact ⟨a, ws, rfl, hle, HL.out⟩
 case rest =>
  obtain ⟨a, ws, rfl, hal, hL⟩ := hcut
  obtain ⟨lo, lc, rfl⟩ := hL.form
  have HL := Lib.hid hL
  have hfew := hL.few
  have how := hL.own
  have hsz : base ≤ wc.heap.size := by have := hL.kept.size; have := HBASE.out; omega
  clear hL
  go_wp2_with (at_builtin; refine wpList_append_lies _ rfl _ _ _ rfl base 9 i0 _ 1 16 Tryz.underlying58 hi0 hz0 hz1 hz2 rfl (by omega) _ ws.length _ (by rfl) (how.alloc _) ⟨wc.heap.size, 0, none⟩ 1 1 (strCells (s.drop a)) (by rfl) (by rfl) (World.news_of_block (cs := (strCells (s.drop a)).toArray) (t := 9) (fr := (0, 0)) (heap_alloc_new wc _)) (by simp [strCells, Value.oneCell']) (by omega) (by unfold maxLen; omega) (by omega) (by simp; omega) (wc.heap.size + 1) (by simp) ?_; intro gg cap w4 hown4 hgrow4 hat4 hlt4)
  go_ret
  have hw : R = ws ++ [s.drop a] := by
   rw [← HR.out, HL.out.words, splitB_done]
   intro c hc
   obtain ⟨j, hj, rfl⟩ := List.mem_iff_getElem.1 hc
   simp only [List.length_drop] at hj
   simp only [List.getElem_drop]
   exact HL.out.plain (a + j) (by omega) (by omega) (by omega)
  have K := (HL.out.kept.alloc (.cells #[.string (str (s.drop a))] 9 (0, 0))).grown hgrow4 (fun k hk => .inr (by have := (HL.out.own.lt k hk).1; have := HBASE.out; omega))
  have e : ((ws.map strCells).flatten ++ strCells (s.drop a)) = (R.map strCells).flatten := by rw [hw]; simp
  rw [e] at hown4
  refine ⟨_, rfl, K.below, rowsAt_of_owns str_rows (by rw [hw]; simp) hown4, fun k hk => ⟨by have := (hown4.lt k hk).1; have := HBASE.out; omega, (hown4.lt k hk).2⟩⟩
def rpairV (a b : B) : Value := .agg #[.string (str a), .string (str b)]
def rpairCells (a b : B) : List Value := [.string (str a), .string (str b)]
def four : List B → Option (B × B × B × B)
 | [a] => some (a, a, a, a)
 | [a, b] => some (a, b, a, b)
 | [a, b, c] => some (a, b, c, b)
 | [a, b, c, d] => some (a, b, c, d)
 | _ => none
theorem rexpand_four {d : PDecl} {L : List B} (hn : d.name = edgeName) (hL : splitB d.val = L) : pExpand d = (four L).map fun x => edges x.1 x.2.1 x.2.2.1 x.2.2.2 d.strong := by
 unfold pExpand
 rw [if_pos hn, hL]
 match L with
 | [] => rfl
 | [a] => rfl
 | [a, b] => rfl
 | [a, b, c] => rfl
 | [a, b, c, e] => rfl
 | a :: b :: c :: e :: x :: L => rfl
def edgesBlock (a b c d : B) : Array Value := #[.string (str edgeTop), .string (str a), .string (str edgeRight), .string (str b), .string (str edgeBottom), .string (str c), .string (str edgeLeft), .string (str d)]
theorem edges_at {a b c d : B} (st : Bool) (k : Nat) (hk : k < 4) : ∃ x y, (edgesBlock a b c d)[k * 2]? = some (.string (str x)) ∧ (edgesBlock a b c d)[k * 2 + 1]? = some (.string (str y)) ∧ (edges a b c d st)[k]? = some ⟨x, y, st⟩ := by
 match k, hk with
 | 0, _ => exact ⟨_, _, rfl, rfl, rfl⟩
 | 1, _ => exact ⟨_, _, rfl, rfl, rfl⟩
 | 2, _ => exact ⟨_, _, rfl, rfl, rfl⟩
 | 3, _ => exact ⟨_, _, rfl, rfl, rfl⟩
structure QLoop (w wr : World) (base c d : Nat) (oc od : Obj) (l : Value) (n : Nat) (xs : List PDecl) (k : Nat) (X : List PDecl) : Prop where
 own : wr.ownsRow base 59 3 l (n + k) ((xs ++ X.take k).map declCells).flatten
 kept : Kept (fun _ => False) w wr
 bc : wr.heap[c]? = some oc
 bd : wr.heap[d]? = some od
 ne : l.ownBlock ≠ some c ∧ l.ownBlock ≠ some d
theorem QLoop.form {w wr : World} {base c d n k : Nat} {oc od : Obj} {l : Value} {xs X : List PDecl} (h : QLoop w wr base c d oc od l n xs k X) : ∃ vo vc, l = .slice vo (n + k) vc := by
 rcases h.own.2 with ⟨h, hn⟩ | ⟨g, cap, cur, h, _⟩
 ·exact ⟨none, 0, by rw [h, hn]⟩
 ·exact ⟨_, cap, h⟩
set_option maxRecDepth 100000 in
set_option maxHeartbeats 3200000 in
theorem rall_any (w : World) (v : Value) (ds : List PDecl) (h : DeclsAt w v ds) (hN : ds.length ≤ 5000000) (hone : ∀ d ∈ ds, d.val.length ≤ 1048576) :
  Calls Tryz.prog 36 #[v] w (AllEnds w (pAll ds)) := by
 obtain ⟨av, cv, rfl, hcv1, hcv2⟩ := h.form
 unfold maxLen at hcv2
 obtain ⟨base, HBASE⟩ : ∃ base, Hid (w.heap.size = base) := ⟨_, rfl⟩
 obtain ⟨R, HR⟩ : ∃ R, Hid (pAll ds = R) := ⟨_, rfl⟩
 rw [HR.out]
 obtain ⟨i0, hi0, hz0, hz1, hz2⟩ := info_parts info_decl
 have H := Lib.hid h
 have HONE := Lib.hid hone
 clear h hone
 go_enter Tryz.func36, Tryz.ntmps36
 go_wp2_with fail
 go_loopw [4, 16] (fun l i wr => ∃ (k n : Nat) (xs : List PDecl), k ≤ ds.length ∧ i = .int .i64 k ∧ ALoop w wr base l ds k n xs) (fun _ i _ => ds.length - (intOf i).toNat)
 case atStart => exact ⟨0, 0, [], by omega, rfl, World.ownsRow_nil _ _ _ _, Kept.refl _ _, rfl, rfl, by omega⟩
 case round =>
  obtain ⟨i, n, xs, hi, rfl, hL⟩ := hrel
  obtain ⟨lo, lc, rfl⟩ := hL.form
  have HL := Lib.hid hL
  obtain ⟨hn1, hn2⟩ := hL.len
  clear hL hn1
  obtain ⟨wr0, hwr0⟩ : ∃ x, x = wr := ⟨_, rfl⟩
  subst hwr0
  by_cases hlt : i < ds.length
  ·have hx := List.getElem?_eq_getElem hlt
   generalize hgx : ds[i] = x at hx
   clear hgx
   obtain ⟨b, off, rfl, g0, g1, g2⟩ := DeclsAt.at (decls_firm.kept H.out HL.out.kept) hx
   have hxl := HONE.out x (List.mem_of_getElem? hx)
   have HX := Lib.hid hx
   clear hx
   go_upto_region 5 with fail
   obtain ⟨wa, HWA⟩ : ∃ x', Hid (wr0.alloc (.cells #[.string (str x.name), .string (str x.val), .bool x.strong] 59 (0,0)) = x') := ⟨_, rfl⟩
   have ka : Kept (fun _ => False) w wa := by rw [← HWA.out]; exact HL.out.kept.alloc _
   have how : wa.ownsRow base 59 3 (.slice lo n lc) n (xs.map declCells).flatten := by rw [← HWA.out]; exact HL.out.own.alloc _
   have hn : wa.heap[wr0.heap.size]? = some (.cells #[.string (str x.name), .string (str x.val), .bool x.strong] 59 (0,0)) := by rw [← HWA.out]; exact newIn wr0 _
   have n0 : wa.cell? ⟨wr0.heap.size, 0, none⟩ = some (.string (str x.name)) := cellIn hn 0 rfl
   have n1 : wa.cell? ⟨wr0.heap.size, 1, none⟩ = some (.string (str x.val)) := cellIn hn 1 rfl
   have n2 : wa.cell? ⟨wr0.heap.size, 2, none⟩ = some (.bool x.strong) := cellIn hn 2 rfl
   have hsz : base ≤ wa.heap.size := by have := ka.size; have := HBASE.out; omega
   have KA := Lib.hid ka
   have HOW := Lib.hid how
   have HN := Lib.hid hn
   clear ka g0 g1 g2 hn
   rw [HWA.out]
   by_cases hed : x.name = edgeName
   ·have g : (x.name == [101, 100, 103, 101]) = true := by rw [hed]; rfl
    have HED := Lib.hid hed
    clear hed how
    go_wp2_with fail
    refine (words_any x.val wa hxl).mono ?_
    rintro e w2 ⟨v2, rfl, hb2, hr2, ho2⟩
    obtain ⟨L, HLL⟩ : ∃ L, Hid (splitB x.val = L) := ⟨_, rfl⟩
    rw [HLL.out] at hr2
    have hne : L ≠ [] := by rw [← HLL.out]; exact splitB_ne _
    obtain ⟨yb, yo, cap2, rfl, hc1, hc2, hcell⟩ : ∃ yb yo cap2, v2 = .slice (some ⟨yb, yo, none⟩) L.length cap2 ∧ L.length ≤ cap2 ∧ cap2 ≤ maxLen ∧ ∀ j y, L[j]? = some y → w2.cell? ⟨yb, yo + j, none⟩ = some (.string (str y)) := by
     obtain ⟨a, cap, rfl, h1, h2, h3⟩ := hr2
     obtain ⟨yb, yo, rfl, h4⟩ := h3 (by simpa using hne)
     exact ⟨yb, yo, cap, by rw [List.length_map], by simpa using h1, h2, fun j y hy => by simpa using h4 j (strCells y) (by simp [hy]) 0 _ rfl⟩
    unfold maxLen at hc2
    have k2 := KA.out.trans (Kept.of_below (S := fun _ => False) hb2)
    have hn2' := (Kept.of_below (S := fun _ => False) hb2).heap id HN.out
    have how2 := owns_kept HOW.out (Kept.of_below (S := fun _ => False) hb2) (fun _ _ => id)
    have hsz2 : base ≤ w2.heap.size := by have := hb2.size; omega
    have K2 := Lib.hid k2
    have HN2 := Lib.hid hn2'
    have HOW2 := Lib.hid how2
    have HC := Lib.hid hcell
    clear k2 hn2' how2 hcell hr2 ho2 hb2 n0 n1 n2
    have hEX := Lib.hid (rexpand_four HED.out HLL.out)
    cases h4 : four L with
    | none =>
     have hl5 : 4 < (L.length : Int) := by
      match L, hne, h4 with
      | a :: b :: c :: e :: y :: L, _, _ => simp; omega
     have hR : Hid (R = none) := Lib.hid (by
      have := all_take HX.out HL.out.all
      rw [hEX.out, h4] at this
      rw [← HR.out]; exact all_none_take this)
     clear h4
     go_wp2_with fail
     refine bodyPost_ret (v := .tuple #[.slice none 0 0, .int .i64 5]) (by simp [results, Tryz.results36, go_sem]) rfl ?_
     rw [hR.out]
     exact ⟨rfl, K2.out.below⟩
    | some t =>
     obtain ⟨ta, tb, tc, td⟩ := t
     have hT : Hid (pAll (ds.take (i + 1)) = some (xs ++ edges ta tb tc td x.strong)) := Lib.hid (by
      have := all_take HX.out HL.out.all
      rw [hEX.out, h4] at this
      exact this)
     have H4 := Lib.hid h4
     clear h4
     have hl4 : L.length ≤ 4 := by
      match L, hne, H4.out with
      | [a], _, _ => simp
      | [a, b], _, _ => simp
      | [a, b, c], _, _ => simp
      | [a, b, c, d], _, _ => simp
     have hl0 : 0 < L.length := List.length_pos_iff.2 hne
     have r0 : w2.cell? ⟨yb, yo, none⟩ = some (.string (str ta)) := by
      have := HC.out 0 ta (by
       match L, hne, H4.out with
       | [a], _, h => cases h; rfl
       | [a, b], _, h => cases h; rfl
       | [a, b, c], _, h => cases h; rfl
       | [a, b, c, d], _, h => cases h; rfl)
      simpa using this
     have r1 : w2.cell? ⟨yb, yo + min 1 (L.length - 1), none⟩ = some (.string (str tb)) := HC.out (min 1 (L.length - 1)) tb (by
       match L, hne, H4.out with
       | [a], _, h => cases h; rfl
       | [a, b], _, h => cases h; rfl
       | [a, b, c], _, h => cases h; rfl
       | [a, b, c, d], _, h => cases h; rfl)
     have r1' : w2.cell? ⟨yb, yo + (min 1 ((L.length : Int) - 1)).toNat, none⟩ = some (.string (str tb)) := by
      rw [show (min 1 ((L.length : Int) - 1)).toNat = min 1 (L.length - 1) from by omega]; exact r1
     have r2 : 2 < L.length → w2.cell? ⟨yb, yo + 2, none⟩ = some (.string (str tc)) := fun hl => HC.out 2 tc (by
       match L, hl, H4.out with
       | [a, b, c], _, h => cases h; rfl
       | [a, b, c, d], _, h => cases h; rfl)
     have r3 : 3 < L.length → w2.cell? ⟨yb, yo + 3, none⟩ = some (.string (str td)) := fun hl => HC.out 3 td (by
       match L, hl, H4.out with
       | [a, b, c, d], _, h => cases h; rfl)
     have e2 : Hid (¬ 2 < L.length → tc = ta) := Lib.hid (by
       match L, hne, H4.out with
       | [a], _, h => cases h; intro _; rfl
       | [a, b], _, h => cases h; intro _; rfl
       | [a, b, c], _, h => simp
       | [a, b, c, d], _, h => simp)
     have e3 : Hid (¬ 3 < L.length → td = tb) := Lib.hid (by
       match L, hne, H4.out with
       | [a], _, h => cases h; intro _; rfl
       | [a, b], _, h => cases h; intro _; rfl
       | [a, b, c], _, h => cases h; intro _; rfl
       | [a, b, c, d], _, h => simp)
     have R2 := Lib.hid r2
     have R3 := Lib.hid r3
     clear r1 r2 r3
     go_upto_if 47 with fail
     go_cut [10] (fun u wx => u = .string (str tc) ∧ wx = w2)
     case first =>
      by_cases h2 : 2 < L.length
      ·have r2 := R2.out h2
       clear r0 r1'
       go_wp2_with fail
       go_meet
       case rel => exact ⟨rfl, rfl⟩
      ·have h2' : ¬ 2 < (L.length : Int) := by omega
       have HE := Lib.hid (e2.out h2)
       go_wp2_with fail
       go_meet
       case rel => exact ⟨by rw [HE.out], rfl⟩
     case rest =>
      obtain ⟨rfl, rfl⟩ := hcut
      clear r0 r1'
      go_upto_if 53 with fail
      go_cut [11] (fun u wx => u = .string (str td) ∧ wx = wc)
      case first =>
       by_cases h2 : 3 < L.length
       ·have r2 := R3.out h2
        go_wp2_with fail
        go_meet
        case rel => exact ⟨rfl, rfl⟩
       ·have h2' : ¬ 3 < (L.length : Int) := by omega
        have HE := Lib.hid (e3.out h2)
        go_wp2_with fail
        go_meet
        case rel => exact ⟨by rw [HE.out], rfl⟩
      case rest =>
       obtain ⟨rfl, rfl⟩ := hcut
       go_upto_block 2 with fail
       obtain ⟨wb, HWB⟩ : ∃ y, Hid (wc.alloc (.cells #[.string ⟨#[101, 100, 103, 101, 45, 116, 111, 112]⟩, .string (str ta), .string ⟨#[101, 100, 103, 101, 45, 114, 105, 103, 104, 116]⟩, .string (str tb), .string ⟨#[101, 100, 103, 101, 45, 98, 111, 116, 116, 111, 109]⟩, .string (str tc), .string ⟨#[101, 100, 103, 101, 45, 108, 101, 102, 116]⟩, .string (str td)] 152 (0, 0)) = y) := ⟨_, rfl⟩
       have hB : wb.heap[wc.heap.size]? = some (.cells (edgesBlock ta tb tc td) 152 (0, 0)) := by rw [← HWB.out]; exact newIn wc _
       have kB : Kept (fun _ => False) wc wb := by rw [← HWB.out]; exact (Kept.refl _ wc).alloc _
       have howB : wb.ownsRow base 59 3 (.slice lo n lc) n (xs.map declCells).flatten := by rw [← HWB.out]; exact HOW2.out.alloc _
       have HB := Lib.hid hB
       have KB := Lib.hid kB
       have HNB := Lib.hid (kB.heap id HN2.out)
       have HOWB := Lib.hid howB
       obtain ⟨Y, HY⟩ : ∃ y, Hid (edges ta tb tc td x.strong = y) := ⟨_, rfl⟩
       have HF : Hid (∀ k, k < 4 → ∃ x' y, (edgesBlock ta tb tc td)[k * 2]? = some (.string (str x')) ∧ (edgesBlock ta tb tc td)[k * 2 + 1]? = some (.string (str y)) ∧ Y[k]? = some ⟨x', y, x.strong⟩) := Lib.hid (by rw [← HY.out]; exact edges_at x.strong)
       have HY4 : Hid (Y.length = 4) := Lib.hid (by rw [← HY.out]; rfl)
       rw [HY.out] at hT
       rw [HWB.out]
       clear hB kB howB
       go_wp2_with fail
       go_loopw [4, 67] (fun l i wy => ∃ k : Nat, k ≤ 4 ∧ i = .int .i64 k ∧ QLoop w wy base wc.heap.size wr0.heap.size (.cells (edgesBlock ta tb tc td) 152 (0, 0)) (.cells #[.string (str x.name), .string (str x.val), .bool x.strong] 59 (0,0)) l n xs k Y) (fun _ i _ => 4 - (intOf i).toNat)
       case atStart =>
        refine ⟨0, by omega, rfl, by simpa using HOWB.out, K2.out.trans KB.out, HB.out, HNB.out, fun h => ?_, fun h => ?_⟩
        ·have := (HOW2.out.lt _ h).2; omega
        ·have := (HL.out.own.lt _ h).2; omega
       case round =>
        obtain ⟨k, hk, rfl, hQ⟩ := hrel
        obtain ⟨lo2, lc2, rfl⟩ := hQ.form
        have HQ := Lib.hid hQ
        have how := hQ.own
        clear hQ
        by_cases hk4 : k < 4
        ·obtain ⟨x', y, hx', hy, hY⟩ := HF.out k hk4
         have q0 : wr.cell? ⟨wc.heap.size, k * 2, none⟩ = some (.string (str x')) := cellIn HQ.out.bc _ hx'
         have q1 : wr.cell? ⟨wc.heap.size, k * 2 + 1, none⟩ = some (.string (str y)) := cellIn HQ.out.bc _ hy
         have HYK := Lib.hid hY
         have hsz3 : base ≤ wr.heap.size := by have := HQ.out.kept.size; have := HBASE.out; omega
         have hnx := HQ.out.bd
         have HNX := Lib.hid hnx
         clear hx' hy hY hnx
         go_upto_region 20 with fail
         obtain ⟨wp, HWP⟩ : ∃ z, Hid (wr.alloc (.cells #[.string (str x'), .string (str y)] 152 (0, 0)) = z) := ⟨_, rfl⟩
         have hP : wp.heap[wr.heap.size]? = some (.cells #[.string (str x'), .string (str y)] 152 (0, 0)) := by rw [← HWP.out]; exact newIn wr _
         have kP : Kept (fun _ => False) w wp := by rw [← HWP.out]; exact HQ.out.kept.alloc _
         have howP : wp.ownsRow base 59 3 (.slice lo2 (n + k) lc2) (n + k) ((xs ++ Y.take k).map declCells).flatten := by rw [← HWP.out]; exact HQ.out.own.alloc _
         have p0 : wp.cell? ⟨wr.heap.size, 0, none⟩ = some (.string (str x')) := cellIn hP 0 rfl
         have p1 : wp.cell? ⟨wr.heap.size, 1, none⟩ = some (.string (str y)) := cellIn hP 1 rfl
         have p2 : wp.cell? ⟨wr0.heap.size, 2, none⟩ = some (.bool x.strong) := by
          rw [← HWP.out]; exact cell_alloc (cellIn HNX.out 2 rfl) _
         have hsz4 : base ≤ wp.heap.size := by have := kP.size; have := HBASE.out; omega
         have hbcP : wp.heap[wc.heap.size]? = some (.cells (edgesBlock ta tb tc td) 152 (0, 0)) := by rw [← HWP.out]; exact oldIn HQ.out.bc _
         have hbdP : wp.heap[wr0.heap.size]? = some (.cells #[.string (str x.name), .string (str x.val), .bool x.strong] 59 (0,0)) := by rw [← HWP.out]; exact oldIn HQ.out.bd _
         have HBC := Lib.hid hbcP
         have HBD := Lib.hid hbdP
         clear hbcP hbdP
         have KP := Lib.hid kP
         clear hP kP how q0 q1
         rw [HWP.out]
         go_wp2_with (at_builtin; refine wpList_append_lies _ rfl _ _ _ rfl base 59 i0 _ 3 40 Tryz.underlying38 hi0 hz0 hz1 hz2 rfl (by omega) _ (n + k) _ (by rfl) (howP.alloc _) ⟨wp.heap.size, 0, none⟩ 1 1 (declCells ⟨x', y, x.strong⟩) (by rfl) (by rfl) (World.news_of_block (cs := (declCells ⟨x', y, x.strong⟩).toArray) (t := 59) (fr := (0, 0)) (heap_alloc_new wp _)) (decl_one _) (by omega) (by unfold maxLen; omega) (by omega) (by simp; omega) (wp.heap.size + 1) (by simp) ?_; intro gg cap w4 hown4 hgrow4 hat4 hlt4)
         go_roundw
         case measure => simp [intOf]; omega
         case rel =>
          have keep : ∀ (c : Nat) (o : Obj), wp.heap[c]? = some o → (Value.slice lo2 (n + k) lc2).ownBlock ≠ some c → w4.heap[c]? = some o := fun c o h hne =>
           (hgrow4.block c (by have := ltIn h; simp; omega) (fun e => hne e.symm)).trans (oldIn h _)
          have gne : ∀ (c : Nat) (o : Obj), wp.heap[c]? = some o → (Value.slice lo2 (n + k) lc2).ownBlock ≠ some c → (Value.slice (some ⟨gg, 0, none⟩) (n + k + 1) cap).ownBlock ≠ some c := fun c o h hne e => by
           have := ltIn h
           simp only [Value.ownBlock, Option.some.injEq] at e
           subst e
           rcases hat4 with h4 | h4
           ·exact hne h4
           ·omega
          refine ⟨k + 1, by omega, by go_num, ?_, (KP.out.alloc _).grown hgrow4 (fun j hj => .inr (by have := (howP.lt j hj).1; have := HBASE.out; omega)), keep _ _ HBC.out HQ.out.ne.1, keep _ _ HBD.out HQ.out.ne.2, gne _ _ HBC.out HQ.out.ne.1, gne _ _ HBD.out HQ.out.ne.2⟩
          rw [List.take_add_one, HYK.out, Option.toList_some, ← List.append_assoc, List.map_append, List.flatten_append, List.map_singleton, List.flatten_singleton]
          exact hown4
        ·obtain rfl : k = 4 := by omega
         go_wp2_with fail
         go_roundw
         case measure => simp [intOf]; omega
         case rel =>
          have hY := List.take_of_length_le (i := 4) (Nat.le_of_eq HY4.out)
          have hown := HQ.out.own
          rw [hY] at hown
          refine ⟨i + 1, n + 4, xs ++ Y, by omega, by go_num, hown, HQ.out.kept, hT.out, ?_⟩
          have := HL.out.len
          have := HY4.out
          exact ⟨by rw [List.length_append]; omega, by omega⟩
   ·have g : (x.name == [101, 100, 103, 101]) = false := beq_false_of_ne hed
    have hT : Hid (pAll (ds.take (i + 1)) = some (xs ++ [x])) := Lib.hid (by
     have := all_take HX.out HL.out.all
     rw [show pExpand x = some [x] from by unfold pExpand; rw [if_neg hed]] at this
     exact this)
    clear hed
    go_wp2_with (at_builtin; refine wpList_append_lies _ rfl _ _ _ rfl base 59 i0 _ 3 40 Tryz.underlying38 hi0 hz0 hz1 hz2 rfl (by omega) _ n _ (by rfl) (how.alloc _) ⟨wa.heap.size, 0, none⟩ 1 1 (declCells x) (by rfl) (by rfl) (World.news_of_block (cs := (declCells x).toArray) (t := 59) (fr := (0, 0)) (heap_alloc_new wa _)) (decl_one x) (by omega) (by unfold maxLen; omega) (by omega) (by simp; omega) (wa.heap.size + 1) (by simp) ?_; intro gg cap w4 hown4 hgrow4 hat4 hlt4)
    go_roundw
    case measure => simp [intOf]; omega
    case rel =>
     refine ⟨i + 1, n + 1, xs ++ [x], by omega, by go_num, ?_, (KA.out.alloc _).grown hgrow4 (fun k hk => .inr (by have := (HOW.out.lt k hk).1; have := HBASE.out; omega)), hT.out, ?_⟩
     ·rw [List.map_append, List.flatten_append, List.map_singleton, List.flatten_singleton]; exact hown4
     ·have := HL.out.len
      exact ⟨by rw [List.length_append, List.length_singleton]; omega, by omega⟩
  ·obtain rfl : i = ds.length := by omega
   go_wp2_with fail
   refine bodyPost_ret (v := .tuple #[.slice lo n lc, .int .i64 0]) (by simp [results, Tryz.results36, go_sem]) rfl ?_
   have hall := HL.out.all
   rw [List.take_length] at hall
   rw [← HR.out, hall]
   refine ⟨_, rfl, HL.out.kept.below, rowsAt_of_owns decl_rows (by rw [List.length_map]; exact HL.out.len.1) HL.out.own, fun k hk => ⟨fun hx => by have := (HL.out.own.lt k hk).1; have := HBASE.out; omega, (HL.out.own.lt k hk).2⟩⟩
set_option maxRecDepth 100000 in
set_option maxHeartbeats 1600000 in
theorem rin_any (x : B) (ss : List B) (w : World) (v : Value) (hv : StrsAt w v ss) : Calls Tryz.prog 65 #[.string (str x), v] w fun e w' => e = .returned (.bool (ss.contains x)) ∧ w' = w := by
 obtain ⟨sa, sc, rfl, hsc1, hsc2⟩ := StrsAt.form hv
 unfold maxLen at hsc2
 have HV := Lib.hid hv
 clear hv
 go_enter Tryz.func65, Tryz.ntmps65
 go_wp2_with fail
 go_loopw [9] (fun c wr => ∃ i : Nat, i ≤ ss.length ∧ c = .int .i64 (i : Int) ∧ wr = w ∧ Hid ((ss.drop i).contains x = ss.contains x)) (fun c _ => ss.length - (intOf c).toNat)
 case atStart => exact ⟨0, by omega, rfl, rfl, Lib.hid rfl⟩
 case round =>
  obtain ⟨i, hi, rfl, rfl, HC⟩ := hrel
  by_cases hlt : i < ss.length
  ·have hx := List.getElem?_eq_getElem hlt
   have hdr := List.drop_eq_getElem_cons hlt
   generalize hgx : ss[i] = y at hx hdr
   clear hgx
   obtain ⟨b, off, rfl, g0⟩ := StrsAt.at HV.out hx
   have hc := HC.out
   rw [hdr, List.contains_cons] at hc
   cases hxy : (x == y) with
   | true =>
    have hyx : (y == x) = true := by rw [beq_iff_eq] at hxy ⊢; exact hxy.symm
    rw [hxy, Bool.true_or] at hc
    have HE := Lib.hid hc
    clear hc hx hdr
    go_wp2_with fail
    go_ret
    exact ⟨retb HE.out, rfl⟩
   | false =>
    have hyx : (y == x) = false := by rw [beq_eq_false_iff_ne] at hxy ⊢; exact fun h => hxy h.symm
    rw [hxy, Bool.false_or] at hc
    have HE := Lib.hid hc
    clear hc hx hdr
    go_wp2_with fail
    go_roundw
    case measure => simp [intOf]; omega
    case rel => exact ⟨i + 1, by omega, by go_num, (by first | rfl | trivial), HE⟩
  ·obtain rfl : i = ss.length := by omega
   have hc := HC.out
   rw [List.drop_length] at hc
   have HE := Lib.hid hc
   clear hc
   go_wp2_with fail
   go_ret
   exact ⟨retb HE.out, rfl⟩
def rTouch (ns : List PNode) (k : Int) (r : PRule) (name : B) : Bool := (mBest ns k r.sels).2 && ((pAll r.decls).getD []).any fun d => d.name == name
set_option maxRecDepth 100000 in
set_option maxHeartbeats 3200000 in
theorem rtouch_any (ns : List PNode) (hns : MtCtx ns) (r : PRule) (u : Value) (m : Int) (name : B) (w : World) (v : Value) (k : Int) (hv : NodesAt w v ns) (hr : RuleAt w u r) (hf : FewTests r.sels) (hk : -9223372036854775808 ≤ k ∧ k ≤ 9223372036854775807) (hm : w.cell? ⟨0, 0, none⟩ = some (.int .i64 m))
  (hN : r.decls.length ≤ 5000000) (hone : ∀ d ∈ r.decls, d.val.length ≤ 1048576) :
  Calls Tryz.prog 23 #[v, .int .i64 k, ruleVal r u, .string (str name)] w fun e w' => e = .returned (.bool (rTouch ns k r name)) ∧ Kept (fun _ => False) w w' := by
 obtain ⟨sv, dv, rfl, hs, hd⟩ := hr
 obtain ⟨na, ncap, rfl, hnc1, hnc2⟩ := hv.form
 obtain ⟨sa, scap, rfl, hsc1, hsc2⟩ := NestAt.form hs
 obtain ⟨da, dcap, rfl, hdc1, hdc2⟩ := DeclsAt.form hd
 unfold maxLen at hnc2 hsc2 hdc2
 show Calls Tryz.prog 23 #[.slice na ns.length ncap, .int .i64 k, .agg #[.string (str r.media), .slice sa r.sels.length scap, .slice da r.decls.length dcap, .int .i64 r.lo, .int .i64 r.hi], .string (str name)] w _
 obtain ⟨wb, HWB⟩ : ∃ x, Hid (w.alloc (.cells #[.string (str r.media), .slice sa r.sels.length scap, .slice da r.decls.length dcap, .int .i64 r.lo, .int .i64 r.hi] 42 (0, 0)) = x) := ⟨_, Lib.hid rfl⟩
 have hkb : Kept (fun _ => False) w wb := by rw [← HWB.out]; exact (Kept.refl _ w).alloc _
 have hb0 : wb.heap[w.heap.size]? = some (.cells #[.string (str r.media), .slice sa r.sels.length scap, .slice da r.decls.length dcap, .int .i64 r.lo, .int .i64 r.hi] 42 (0, 0)) := by rw [← HWB.out]; exact newIn w _
 have HBE := rbest_any ns hns r (.tuple #[.slice sa r.sels.length scap, .slice da r.decls.length dcap]) m wb (.slice na ns.length ncap) k (nodes_firm.kept hv hkb) ⟨_, _, rfl, sels_firm.kept hs hkb, decls_firm.kept hd hkb⟩ hf hk (hkb.cell id hm)
 obtain ⟨B0, HB0⟩ : ∃ x, Hid (mBest ns k r.sels = x) := ⟨_, Lib.hid rfl⟩
 rw [HB0.out] at HBE
 replace HBE := Lib.hid HBE
 obtain ⟨R, HR⟩ : ∃ x, Hid (rTouch ns k r name = x) := ⟨_, Lib.hid rfl⟩
 rw [HR.out]
 have HD := Lib.hid (decls_firm.kept hd hkb)
 have HKB := Lib.hid hkb
 have HBX := Lib.hid hb0
 have HONE := Lib.hid hone
 have b0 := cellIn hb0 0 rfl
 have b1 := cellIn hb0 1 rfl
 have b2 := cellIn hb0 2 rfl
 have b3 := cellIn hb0 3 rfl
 have b4 := cellIn hb0 4 rfl
 clear hv hs hd hm hf hb0 hkb hone
 go_enter Tryz.func23, Tryz.ntmps23
 go_upto_region 1 with fail
 rw [HWB.out]
 go_wp2_with fail
 refine HBE.out.mono ?_
 intro e w2 he2
 obtain ⟨⟨xa, xb, xc⟩, q⟩ := B0
 obtain ⟨rfl, hk2⟩ := he2
 unfold wtVal
 obtain ⟨w3, HW3⟩ : ∃ x, Hid (w2.alloc (.cells #[.int .i64 (xa : Int), .int .i64 (xb : Int), .int .i64 (xc : Int)] 119 (0, 0)) = x) := ⟨_, Lib.hid rfl⟩
 have hk3 : Kept (fun _ => False) wb w3 := by rw [← HW3.out]; exact hk2.alloc _
 have HK3 := Lib.hid hk3
 have d2 := cellIn (hk3.heap id HBX.out) 2 rfl
 have HR2 : Hid (rTouch ns k r name = (q && ((pAll r.decls).getD []).any fun d => d.name == name)) := Lib.hid (by unfold rTouch; rw [HB0.out])
 clear hk2 hk3 b0 b1 b2 b3 b4
 go_upto_region 2 with fail
 rw [HW3.out]
 cases q with
 | false =>
  have hr : R = false := by rw [← HR.out, HR2.out]; rfl
  subst hr
  go_wp2_with fail
  go_ret
  exact ⟨rfl, HKB.out.trans HK3.out⟩
 | true =>
  have HRR : Hid ((((pAll r.decls).getD []).any fun d => d.name == name) = R) := Lib.hid (by rw [← HR.out, HR2.out]; rfl)
  go_wp2_with fail
  refine (rall_any w3 _ r.decls (decls_firm.kept HD.out HK3.out) hN HONE.out).mono ?_
  intro e w4 he4
  have hall : ∃ dv er x, e = .returned (.tuple #[dv, .int .i64 er]) ∧ Kept (fun _ => False) w3 w4 ∧ DeclsAt w4 dv x ∧ (pAll r.decls).getD [] = x := by
   cases hp : pAll r.decls with
   | none => rw [hp] at he4; exact ⟨_, _, [], he4.1, Kept.of_below he4.2, RowsAt.nil _ _, rfl⟩
   | some x => rw [hp] at he4; obtain ⟨dv, h1, h2, h3⟩ := he4; exact ⟨dv, _, x, h1, Kept.of_below h2, h3.1, rfl⟩
  obtain ⟨dv, er, x, rfl, hk4, hd4, hx⟩ := hall
  obtain ⟨xa', xc', rfl, hxc1, hxc2⟩ := DeclsAt.form hd4
  unfold maxLen at hxc2
  have hrr := HRR.out
  rw [hx] at hrr
  have HX := Lib.hid hrr
  have HK4 := Lib.hid (HK3.out.trans hk4)
  have HD4 := Lib.hid hd4
  clear he4 hk4 hd4 hx hrr d2
  go_wp2_with fail
  go_loopw [32] (fun c wr => ∃ i : Nat, i ≤ x.length ∧ c = .int .i64 (i : Int) ∧ Hid (Kept (fun _ => False) w4 wr) ∧ Hid (((x.drop i).any fun d => d.name == name) = R)) (fun c _ => x.length - (intOf c).toNat)
  case atStart => exact ⟨0, by omega, rfl, Lib.hid (Kept.refl _ _), HX⟩
  case round =>
   obtain ⟨i, hi, rfl, HK, HA⟩ := hrel
   obtain ⟨wr0, hwr0⟩ : ∃ x, x = wr := ⟨_, rfl⟩
   subst hwr0
   by_cases hlt : i < x.length
   ·have hy := List.getElem?_eq_getElem hlt
    have hdr := List.drop_eq_getElem_cons hlt
    generalize hgy : x[i] = y at hy hdr
    clear hgy
    obtain ⟨b, off, rfl, g0, g1, g2⟩ := DeclsAt.at (decls_firm.kept HD4.out HK.out) hy
    have ha := HA.out
    rw [hdr, List.any_cons] at ha
    have HAA := Lib.hid ha
    clear ha hy hdr
    go_upto_region 8 with fail
    obtain ⟨wv, HWV⟩ : ∃ z, Hid (wr0.alloc (.cells #[.string (str y.name), .string (str y.val), .bool y.strong] 59 (0, 0)) = z) := ⟨_, Lib.hid rfl⟩
    have v0 : wv.cell? ⟨wr0.heap.size, 0, none⟩ = some (.string (str y.name)) := by rw [← HWV.out]; exact cellIn (newIn wr0 _) 0 rfl
    have HKV : Hid (Kept (fun _ => False) w4 wv) := Lib.hid (by rw [← HWV.out]; exact HK.out.alloc _)
    rw [HWV.out]
    clear g0 g1 g2
    cases hn : (y.name == name) with
    | true =>
     have hr : R = true := by rw [← HAA.out, hn, Bool.true_or]
     subst hr
     go_wp2_with fail
     go_ret
     exact ⟨rfl, (HKB.out.trans HK4.out).trans HKV.out⟩
    | false =>
     have HA2 : Hid (((x.drop (i + 1)).any fun d => d.name == name) = R) := Lib.hid (by rw [← HAA.out, hn, Bool.false_or])
     go_wp2_with fail
     go_roundw
     case measure => simp [intOf]; omega
     case rel => exact ⟨i + 1, by omega, by go_num, HKV, HA2⟩
   ·obtain rfl : i = x.length := by omega
    have hr : R = false := by rw [← HA.out, List.drop_length]; rfl
    subst hr
    go_wp2_with fail
    go_ret
    exact ⟨rfl, (HKB.out.trans HK4.out).trans HK.out⟩
theorem reads_of {s : B} {l : List PNode} {rules : List PRule} {T : PT} (h : ReadAs s l rules T) (m : Int) (w : World) (hm : w.cell? ⟨0, 0, none⟩ = some (.int .i64 m)) :
  Calls Tryz.prog 13 #[.string (str s)] w fun e w' => ∃ lv rv, e = .returned (.tuple #[lv, rv, .agg #[.int .i64 0, .int .i64 0]]) ∧ Kept (fun _ => False) w w' ∧ NodesAt w' lv l ∧ RulesAt w' rv rules := by
 have := read_any s m w hm (by have := h.len; omega)
 rw [as_read h] at this
 exact this
theorem rTouch_iff {m : List PNode} {k : Nat} {r : PRule} {n : B} (hk : k < m.length) : rTouch m (k : Int) r n = true ↔ (k, n) ∈ touches m r := by
 rw [mem_touches]
 unfold rTouch plainOf
 rw [Bool.and_eq_true, List.any_eq_true]
 constructor
 ·rintro ⟨h1, d, hd, he⟩
  exact ⟨hk, h1, d, hd, by simpa using he⟩
 ·rintro ⟨_, h1, d, hd, he⟩
  exact ⟨h1, d, hd, by simpa using he⟩
theorem rules_nil (w : World) : RulesAt w (.slice none 0 0) [] := ⟨[], rfl, RowsAt.nil _ _, fun i x u hx => by simp at hx⟩
theorem strs_nil (w : World) : StrsAt w (.slice none 0 0) [] := RowsAt.nil _ _
theorem alone_end {s t : B} {l m : List PNode} {rules qs : List PRule} {st : List Bool} {T : PT} (F : FoldAs s t l m rules qs st T) (S : IsStays l rules st) {k : Nat} {look own : List PDecl} (hk : k < l.length) (hl : cDeclared l (k : Int) rules [] = .ok look) (ho : cDeclared m (k : Int) [] [] = .ok own)
  {d : PDecl} (hd : d ∈ look) (hf : (qs.any fun r => rTouch m (k : Int) r d.name) = false) : own.contains d = true := by
 have hk' : k < m.length := by rw [← F.rel.len]; exact hk
 obtain ⟨o, h1, h2⟩ := fold_alone F S (List.getElem?_eq_getElem hk) (List.getElem?_eq_getElem hk') hl hd (fun r hr ht => by
  rw [List.any_eq_false] at hf
  exact hf r hr ((rTouch_iff hk').2 ht))
 rw [ho] at h1
 cases h1
 simpa using h2
theorem ne_fields {c d : PDecl} (h : (c == d) = false) : (c.name == d.name) = false ∨ ((c.name == d.name) = true ∧ (c.val == d.val) = false) ∨ ((c.name == d.name) = true ∧ (c.val == d.val) = true ∧ (c.strong == d.strong) = false) := by
 obtain ⟨cn, cv, cs⟩ := c
 obtain ⟨dn, dv, ds⟩ := d
 simp only [beq_eq_false_iff_ne, beq_iff_eq, ne_eq, PDecl.mk.injEq] at h ⊢
 by_cases h1 : cn = dn
 ·by_cases h2 : cv = dv
  ·by_cases h3 : cs = ds
   ·exact absurd ⟨h1, h2, h3⟩ h
   ·exact .inr (.inr ⟨h1, h2, h3⟩)
  ·exact .inr (.inl ⟨h1, h2⟩)
 ·exact .inl h1
theorem contains_take {own : List PDecl} {j : Nat} {c d : PDecl} (h : own[j]? = some c) : (own.take (j + 1)).contains d = ((own.take j).contains d || (c == d)) := by
 rw [List.take_add_one, h, Option.toList_some, Bool.eq_iff_iff]
 simp only [Bool.or_eq_true, List.contains_iff_mem, List.mem_append, List.mem_singleton, beq_iff_eq]
 exact ⟨fun h => h.imp id Eq.symm, fun h => h.imp id Eq.symm⟩
theorem any_take {α : Type} {qs : List α} {p : α → Bool} {j : Nat} {r : α} (h : qs[j]? = some r) : (qs.take (j + 1)).any p = ((qs.take j).any p || p r) := by
 rw [List.take_add_one, h, Option.toList_some, List.any_append]; simp
set_option maxRecDepth 100000 in
set_option maxHeartbeats 3200000 in
theorem foldAlone_any (s : B) (m : Int) (w : World) (hm : w.cell? ⟨0, 0, none⟩ = some (.int .i64 m)) (hs : s.length ≤ 9223372036854775807) :
  Calls Tryz.prog 7 #[.string (str s)] w fun e w' => e = .returned (.bool true) ∧ Kept (fun _ => False) w w' := by
 have HA := Lib.hid (alive6_any w m hm)
 have HM := Lib.hid hm
 clear hm
 go_enter Tryz.func7, Tryz.ntmps7
 go_wp2_with (go_at_call 21; refine HA.out.mono ?_; rintro e w1 ⟨rfl, hk1⟩)
 refine (fold_ways s m w1 (hk1.cell id HM.out) hs).mono ?_
 rintro e w2 ⟨hk2, h⟩
 have HK2 := Lib.hid (hk1.trans hk2)
 rcases h with ⟨a, p, rfl, hne⟩ | ⟨l, rules, st, t, T, rfl, hT, hst, hf⟩
 ·have hneI : ((a : Int) != 0) = true := by simp; omega
  clear hne hk1 hk2
  obtain ⟨wb, HWB⟩ : ∃ x, Hid (w2.alloc (.cells #[.int .i64 (a : Int), .int .i64 (p : Int)] 26 (0, 0)) = x) := ⟨_, rfl⟩
  have c0 : wb.cell? ⟨w2.heap.size, 0, none⟩ = some (.int .i64 (a : Int)) := by rw [← HWB.out]; exact cellIn (newIn w2 _) 0 rfl
  have HKB : Hid (Kept (fun _ => False) w wb) := Lib.hid (by rw [← HWB.out]; exact HK2.out.alloc _)
  go_upto_region 4 with fail
  rw [HWB.out]
  go_wp2_with fail
  go_ret
  exact ⟨rfl, HKB.out⟩
 ·obtain ⟨ms, qs, F⟩ := fold_reads hT hst.len hf
  have HT := Lib.hid hT
  have HST := Lib.hid hst
  have HF := Lib.hid F
  have hmost := hT.most
  have hmost2 := F.dst.most
  have htl := F.dst.len
  have HLEN := Lib.hid F.rel.len
  have hne : ((l.length : Int) != (ms.length : Int)) = false := by rw [HLEN.out]; simp
  have hstl := hst.len
  obtain ⟨wb, HWB⟩ : ∃ x, Hid (w2.alloc (.cells #[.int .i64 0, .int .i64 0] 26 (0, 0)) = x) := ⟨_, rfl⟩
  have c0 : wb.cell? ⟨w2.heap.size, 0, none⟩ = some (.int .i64 0) := by rw [← HWB.out]; exact cellIn (newIn w2 _) 0 rfl
  have HKB : Hid (Kept (fun _ => False) w wb) := Lib.hid (by rw [← HWB.out]; exact HK2.out.alloc _)
  clear hk1 hk2 hT hst hf F
  go_upto_region 4 with fail
  rw [HWB.out]
  go_wp2_with fail
  refine (reads_of HT.out m wb (HKB.out.cell id HM.out)).mono ?_
  rintro e w3 ⟨lv, rv, rfl, hk3, hl3, hr3⟩
  obtain ⟨la, lc, rfl, hlc1, hlc2⟩ := hl3.form
  obtain ⟨ra, rc, rfl, hrc1, hrc2⟩ := NestAt.form hr3
  unfold maxLen at hlc2 hrc2
  obtain ⟨w4, HW4⟩ : ∃ x, Hid (w3.alloc (.cells #[.int .i64 0, .int .i64 0] 26 (0, 0)) = x) := ⟨_, rfl⟩
  have hk4 : Kept (fun _ => False) w3 w4 := by rw [← HW4.out]; exact (Kept.refl _ w3).alloc _
  have HL4 := Lib.hid (nodes_firm.kept hl3 hk4)
  have HR4 := Lib.hid (rules_firm.kept hr3 hk4)
  have HK4 := Lib.hid ((HKB.out.trans hk3).trans hk4)
  clear hk3 hl3 hr3 hk4 c0
  go_upto_region 7 with fail
  rw [HW4.out]
  go_wp2_with fail
  refine (reads_of HF.out.dst m w4 (HK4.out.cell id HM.out)).mono ?_
  rintro e w5 ⟨mv, qv, rfl, hk5, hm5, hq5⟩
  obtain ⟨ma, mc, rfl, hmc1, hmc2⟩ := hm5.form
  obtain ⟨qa, qc, rfl, hqc1, hqc2⟩ := NestAt.form hq5
  unfold maxLen at hmc2 hqc2
  obtain ⟨w6, HW6⟩ : ∃ x, Hid (w5.alloc (.cells #[.int .i64 0, .int .i64 0] 26 (0, 0)) = x) := ⟨_, rfl⟩
  have hk6 : Kept (fun _ => False) w5 w6 := by rw [← HW6.out]; exact (Kept.refl _ w5).alloc _
  have c0 : w6.cell? ⟨w5.heap.size, 0, none⟩ = some (.int .i64 0) := by rw [← HW6.out]; exact cellIn (newIn w5 _) 0 rfl
  have HL6 := Lib.hid (nodes_firm.kept HL4.out (hk5.trans hk6))
  have HR6 := Lib.hid (rules_firm.kept HR4.out (hk5.trans hk6))
  have HQ6 := Lib.hid (rules_firm.kept hq5 hk6)
  have HM6 := Lib.hid (nodes_firm.kept hm5 hk6)
  have HK6 := Lib.hid ((HK4.out.trans hk5).trans hk6)
  clear hk5 hm5 hq5 hk6
  go_upto_region 8 with fail
  rw [HW6.out]
  go_wp2_with fail
  go_loopw [58] (fun c wr => ∃ k : Nat, k ≤ l.length ∧ c = .int .i64 (k : Int) ∧ Hid (Kept (fun _ => False) w6 wr)) (fun c _ => l.length - (intOf c).toNat)
  case atStart => exact ⟨0, by omega, rfl, Lib.hid (Kept.refl _ _)⟩
  case round =>
   obtain ⟨k, hk, rfl, HK⟩ := hrel
   obtain ⟨wr0, hwr0⟩ : ∃ x, x = wr := ⟨_, rfl⟩
   subst hwr0
   by_cases hlt : k < l.length
   ·have hltm : k < ms.length := by rw [← HLEN.out]; exact hlt
    obtain ⟨look, hlook⟩ := HT.out.declared [] hlt
    obtain ⟨own, hown⟩ := HF.out.dst.bare [] hltm
    have HLK := Lib.hid hlook
    have HOW := Lib.hid hown
    have hl120 := (read_lim (as_read HT.out)).mt.few
    have HC1 : Hid (Calls Tryz.prog 22 #[.slice la l.length lc, .int .i64 (k : Int), .slice ra rules.length rc, .slice none 0 0] wr0 (DcEnds wr0 (.ok look))) := Lib.hid (by
     rw [← hlook]
     exact declared_any l rules ((read_lim (as_read HT.out)).ca (fun r h => h) (Nat.le_refl _)) [] (k : Int) (by omega) m wr0 _ _ _ (nodes_firm.kept HL6.out HK.out) (rules_firm.kept HR6.out HK.out) (strs_nil _) ((HK6.out.trans HK.out).cell id HM.out))
    clear hlook hown
    go_wp2_with fail
    refine HC1.out.mono ?_
    rintro e w7 ⟨xv, rfl, hk7, hx7, hxl⟩
    obtain ⟨xa, xc, rfl, hxc1, hxc2⟩ := DeclsAt.form hx7
    unfold maxLen at hxc2
    have HK7 := Lib.hid (HK.out.trans hk7)
    have HX7 := Lib.hid hx7
    have HC2 : Hid (Calls Tryz.prog 22 #[.slice ma ms.length mc, .int .i64 (k : Int), .slice none 0 0, .slice none 0 0] w7 (DcEnds w7 (.ok own))) := Lib.hid (by
     rw [← HOW.out]
     exact declared_any ms [] ((read_lim (as_read HF.out.dst)).ca (fun r h => by cases h) (Nat.zero_le _)) [] (k : Int) (by omega) m w7 _ _ _ (nodes_firm.kept HM6.out HK7.out) (rules_nil _) (strs_nil _) ((HK6.out.trans HK7.out).cell id HM.out))
    clear hk7 hx7
    go_wp2_with fail
    refine HC2.out.mono ?_
    rintro e w8 ⟨yv, rfl, hk8, hy8, hyl⟩
    obtain ⟨ya, yc, rfl, hyc1, hyc2⟩ := DeclsAt.form hy8
    unfold maxLen at hyc2
    have HK8 := Lib.hid (HK7.out.trans hk8)
    have HX8 := Lib.hid (decls_firm.kept HX7.out hk8)
    have HY8 := Lib.hid hy8
    clear hk8 hy8 c0
    go_wp2_with fail
    go_loopw [82] (fun c wx => ∃ i : Nat, i ≤ look.length ∧ c = .int .i64 (i : Int) ∧ Hid (Kept (fun _ => False) w8 wx)) (fun c _ => look.length - (intOf c).toNat)
    case atStart => exact ⟨0, by omega, rfl, Lib.hid (Kept.refl _ _)⟩
    case round =>
     obtain ⟨i, hi, rfl, HKX⟩ := hrel
     obtain ⟨wx0, hwx0⟩ : ∃ x, x = wr := ⟨_, rfl⟩
     subst hwx0
     by_cases hlt2 : i < look.length
     ·have hd := List.getElem?_eq_getElem hlt2
      generalize hgd : look[i] = d at hd
      clear hgd
      have HDM := Lib.hid (List.mem_of_getElem? hd)
      obtain ⟨xb, xo, rfl, g0, g1, g2⟩ := DeclsAt.at (decls_firm.kept HX8.out HKX.out) hd
      clear hd
      obtain ⟨db, HDB⟩ : ∃ x, Hid (wx0.heap.size = x) := ⟨_, Lib.hid rfl⟩
      obtain ⟨w9, HW9⟩ : ∃ x, Hid (wx0.alloc (.cells #[.string (str d.name), .string (str d.val), .bool d.strong] 53 (0, 0)) = x) := ⟨_, Lib.hid rfl⟩
      have hb9 : w9.heap[db]? = some (.cells #[.string (str d.name), .string (str d.val), .bool d.strong] 53 (0, 0)) := by rw [← HW9.out, ← HDB.out]; exact newIn wx0 _
      have HB9 := Lib.hid hb9
      have HK9 : Hid (Kept (fun _ => False) w8 w9) := Lib.hid (by rw [← HW9.out]; exact HKX.out.alloc _)
      clear hb9
      go_upto_region 20 with fail
      rw [HW9.out, HDB.out]
      clear g0 g1 g2
      go_wp2_with fail
      go_loopw [18, 88] (fun tv c wy => ∃ (j : Nat) (b : Bool), j ≤ own.length ∧ c = .int .i64 (j : Int) ∧ tv = .bool b ∧ Hid ((own.take j).contains d = b) ∧ Hid (Kept (fun _ => False) w9 wy)) (fun _ c _ => own.length - (intOf c).toNat)
      case atStart => exact ⟨0, false, by omega, rfl, rfl, Lib.hid rfl, Lib.hid (Kept.refl _ _)⟩
      case round =>
       obtain ⟨j, b, hj, rfl, rfl, HB, HKY⟩ := hrel
       obtain ⟨wy0, hwy0⟩ : ∃ x, x = wr := ⟨_, rfl⟩
       subst hwy0
       by_cases hlt3 : j < own.length
       ·have hc := List.getElem?_eq_getElem hlt3
        generalize hgc : own[j] = c at hc
        clear hgc
        have hnx : Hid ((own.take (j + 1)).contains d = (b || (c == d))) := Lib.hid (by rw [contains_take hc, HB.out])
        obtain ⟨yb, yo, rfl, g0, g1, g2⟩ := DeclsAt.at (decls_firm.kept HY8.out (HK9.out.trans HKY.out)) hc
        clear hc
        go_upto_region 24 with fail
        obtain ⟨wv, HWV⟩ : ∃ z, Hid (wy0.alloc (.cells #[.string (str c.name), .string (str c.val), .bool c.strong] 53 (0, 0)) = z) := ⟨_, Lib.hid rfl⟩
        have hkv : Kept (fun _ => False) w9 wv := by rw [← HWV.out]; exact HKY.out.alloc _
        have hv : wv.heap[wy0.heap.size]? = some (.cells #[.string (str c.name), .string (str c.val), .bool c.strong] 53 (0, 0)) := by rw [← HWV.out]; exact newIn wy0 _
        have v0 := cellIn hv 0 rfl
        have v1 := cellIn hv 1 rfl
        have v2 := cellIn hv 2 rfl
        have d0 := cellIn (hkv.heap id HB9.out) 0 rfl
        have d1 := cellIn (hkv.heap id HB9.out) 1 rfl
        have d2 := cellIn (hkv.heap id HB9.out) 2 rfl
        have HKV := Lib.hid hkv
        rw [HWV.out]
        clear g0 g1 g2 hv hkv
        cases b with
        | true =>
         have hn2 : Hid ((own.take (j + 1)).contains d = true) := Lib.hid (by rw [hnx.out]; rfl)
         go_wp2_with fail
         go_roundw
         case measure => simp [intOf]; omega
         case rel => exact ⟨j + 1, true, by omega, by go_num, rfl, hn2, HKV⟩
        | false =>
         cases hcd : (c == d) with
         | true =>
          have hn2 : Hid ((own.take (j + 1)).contains d = true) := Lib.hid (by rw [hnx.out, hcd]; rfl)
          have hce : c = d := by simpa using hcd
          subst hce
          go_wp2_with fail
          go_roundw
          case measure => simp [intOf]; omega
          case rel => exact ⟨j + 1, true, by omega, by go_num, rfl, hn2, HKV⟩
         | false =>
          have hn2 : Hid ((own.take (j + 1)).contains d = false) := Lib.hid (by rw [hnx.out, hcd]; rfl)
          have hnf := ne_fields hcd
          clear hcd
          rcases hnf with q1 | ⟨q1, q2⟩ | ⟨q1, q2, q3⟩
          all_goals
           go_wp2_with fail
           go_roundw
           case measure => simp [intOf]; omega
           case rel => exact ⟨j + 1, false, by omega, by go_num, rfl, hn2, HKV⟩
       ·obtain rfl : j = own.length := by omega
        have hbb := HB.out
        rw [List.take_length] at hbb
        have HBB := Lib.hid hbb
        have hcq : CaCtx ms qs := (read_lim (as_read HF.out.dst)).ca (fun r h => h) (Nat.le_refl _)
        have HCQ := Lib.hid hcq
        have hmt := (read_lim (as_read HF.out.dst)).mt
        have HMT := Lib.hid hmt
        have HKY0 : Hid (Kept (fun _ => False) w8 wy0) := Lib.hid (HK9.out.trans HKY.out)
        clear hbb hcq hmt
        go_wp2_with fail
        go_loopw [19, 101] (fun fv c wz => ∃ (jj : Nat) (f : Bool), jj ≤ qs.length ∧ c = .int .i64 (jj : Int) ∧ fv = .bool f ∧ Hid ((!((qs.take jj).any fun r => rTouch ms (k : Int) r d.name)) = f) ∧ Hid (Kept (fun _ => False) wy0 wz)) (fun _ c _ => qs.length - (intOf c).toNat)
        case atStart => exact ⟨0, true, by omega, rfl, rfl, Lib.hid rfl, Lib.hid (Kept.refl _ _)⟩
        case round =>
         obtain ⟨jj, f, hjj, rfl, rfl, HFR, HKZ⟩ := hrel
         obtain ⟨wz0, hwz0⟩ : ∃ x, x = wr := ⟨_, rfl⟩
         subst hwz0
         by_cases hlt4 : jj < qs.length
         ·have hr := List.getElem?_eq_getElem hlt4
          generalize hgr : qs[jj] = r at hr
          clear hgr
          have hnx : Hid ((!((qs.take (jj + 1)).any fun r => rTouch ms (k : Int) r d.name)) = (f && !rTouch ms (k : Int) r d.name)) := Lib.hid (by rw [any_take hr, Bool.not_or, HFR.out])
          have hrm := List.mem_of_getElem? hr
          have HKW : Hid (Kept (fun _ => False) w6 wz0) := Lib.hid ((HK8.out.trans HKY0.out).trans HKZ.out)
          obtain ⟨rb, ro, u, rfl, hcs, sv, dv, rfl, hss, hds⟩ := NestAt.at (rules_firm.kept HQ6.out HKW.out) hr
          obtain ⟨sa, sc, rfl, hsc1, hsc2⟩ := NestAt.form hss
          obtain ⟨da, dc, rfl, hdc1, hdc2⟩ := DeclsAt.form hds
          have r0 : wz0.cell? ⟨rb, ro + jj * 5, none⟩ = some (.string (str r.media)) := hcs 0 _ rfl
          have r1 : wz0.cell? ⟨rb, ro + jj * 5 + 1, none⟩ = some (.slice sa r.sels.length sc) := hcs 1 _ rfl
          have r2 : wz0.cell? ⟨rb, ro + jj * 5 + 2, none⟩ = some (.slice da r.decls.length dc) := hcs 2 _ rfl
          have r3 : wz0.cell? ⟨rb, ro + jj * 5 + 3, none⟩ = some (.int .i64 r.lo) := hcs 3 _ rfl
          have r4 : wz0.cell? ⟨rb, ro + jj * 5 + 4, none⟩ = some (.int .i64 r.hi) := hcs 4 _ rfl
          obtain ⟨wv, HWV⟩ : ∃ z, Hid (wz0.alloc (.cells #[.string (str r.media), .slice sa r.sels.length sc, .slice da r.decls.length dc, .int .i64 r.lo, .int .i64 r.hi] 42 (0, 0)) = z) := ⟨_, Lib.hid rfl⟩
          have hkv : Kept (fun _ => False) wz0 wv := by rw [← HWV.out]; exact (Kept.refl _ wz0).alloc _
          have hv : wv.heap[wz0.heap.size]? = some (.cells #[.string (str r.media), .slice sa r.sels.length sc, .slice da r.decls.length dc, .int .i64 r.lo, .int .i64 r.hi] 42 (0, 0)) := by rw [← HWV.out]; exact newIn wz0 _
          have v0 := cellIn hv 0 rfl
          have v1 := cellIn hv 1 rfl
          have v2 := cellIn hv 2 rfl
          have v3 := cellIn hv 3 rfl
          have v4 := cellIn hv 4 rfl
          have d0 := cellIn (((HKY.out.trans HKZ.out).trans hkv).heap id HB9.out) 0 rfl
          have HKV : Hid (Kept (fun _ => False) wy0 wv) := Lib.hid (HKZ.out.trans hkv)
          obtain ⟨tb, HTB⟩ : ∃ x, Hid (rTouch ms (k : Int) r d.name = x) := ⟨_, Lib.hid rfl⟩
          have HCT : Hid (Calls Tryz.prog 23 #[.slice ma ms.length mc, .int .i64 (k : Int), .agg #[.string (str r.media), .slice sa r.sels.length sc, .slice da r.decls.length dc, .int .i64 r.lo, .int .i64 r.hi], .string (str d.name)] wv fun e w' => e = .returned (.bool tb) ∧ Kept (fun _ => False) wv w') := Lib.hid (by
           rw [← HTB.out]
           exact rtouch_any ms HMT.out r (.tuple #[.slice sa r.sels.length sc, .slice da r.decls.length dc]) m d.name wv _ (k : Int) (nodes_firm.kept HM6.out (HKW.out.trans hkv)) ⟨_, _, rfl, sels_firm.kept hss hkv, decls_firm.kept hds hkv⟩ (HCQ.out.tests r hrm) (by omega) ((HK6.out.trans (HKW.out.trans hkv)).cell id HM.out) (by have := HCQ.out.each r hrm; omega) (HCQ.out.vals r hrm))
          have hnx2 : Hid ((!((qs.take (jj + 1)).any fun r => rTouch ms (k : Int) r d.name)) = (f && !tb)) := Lib.hid (by rw [hnx.out, HTB.out])
          clear hcs hss hds hr hrm hkv hv hsc1 hsc2 hdc1 hdc2
          go_upto_region 29 with fail
          rw [HWV.out]
          clear r0 r1 r2 r3 r4
          cases f with
          | false =>
           have hn3 : Hid ((!((qs.take (jj + 1)).any fun r => rTouch ms (k : Int) r d.name)) = false) := Lib.hid (by rw [hnx2.out]; rfl)
           go_wp2_with fail
           go_roundw
           case measure => simp [intOf]; omega
           case rel => exact ⟨jj + 1, false, by omega, by go_num, rfl, hn3, HKV⟩
          | true =>
           go_wp2_with fail
           refine HCT.out.mono ?_
           rintro e w10 ⟨rfl, hk10⟩
           have HKV2 : Hid (Kept (fun _ => False) wy0 w10) := Lib.hid (HKV.out.trans hk10)
           have hn3 : Hid ((!((qs.take (jj + 1)).any fun r => rTouch ms (k : Int) r d.name)) = !tb) := Lib.hid (by rw [hnx2.out]; rfl)
           clear hk10
           go_wp2_with fail
           go_roundw
           case measure => simp [intOf]; omega
           case rel => exact ⟨jj + 1, !tb, by omega, by go_num, rfl, hn3, HKV2⟩
         ·obtain rfl : jj = qs.length := by omega
          have HKF : Hid (Kept (fun _ => False) w8 wz0) := Lib.hid (HKY0.out.trans HKZ.out)
          have hff := HFR.out
          rw [List.take_length] at hff
          cases f with
          | false =>
           clear hff
           go_wp2_with fail
           go_roundw
           case measure => simp [intOf]; omega
           case rel => exact ⟨i + 1, by omega, by go_num, HKF⟩
          | true =>
           have hb : b = true := by rw [← HBB.out]; exact alone_end HF.out HST.out hlt HLK.out HOW.out HDM.out (by simpa using hff)
           subst hb
           clear hff
           go_wp2_with fail
           go_roundw
           case measure => simp [intOf]; omega
           case rel => exact ⟨i + 1, by omega, by go_num, HKF⟩
     ·obtain rfl : i = look.length := by omega
      go_wp2_with fail
      go_roundw
      case measure => simp [intOf]; omega
      case rel => exact ⟨k + 1, by omega, by go_num, Lib.hid (HK8.out.trans HKX.out)⟩
   ·obtain rfl : k = l.length := by omega
    go_wp2_with fail
    go_ret
    exact ⟨rfl, HK6.out.trans HK.out⟩
end Go.Proofs.YtplbdlgmjehckacGreatDoor

