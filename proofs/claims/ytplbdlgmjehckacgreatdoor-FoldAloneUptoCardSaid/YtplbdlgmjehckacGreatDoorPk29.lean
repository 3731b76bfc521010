/-
 Lemmas for the claims of this seat: the program's functions walked, and plain laws. In this order: R3All R3Touch.
-/
import Derived.Test.YtplbdlgmjehckacGreatDoorPk16
import Derived.Test.YtplbdlgmjehckacGreatDoorPk28
namespace Go.Proofs.YtplbdlgmjehckacGreatDoor
open Go.RowKit
set_option linter.unusedVariables false
set_option linter.unusedSimpArgs false
def rpairV (a b : B) : Value := .agg #[.string (str a), .string (str b)]
def rpairCells (a b : B) : List Value := [.string (str a), .string (str b)]
def four : List B → Option (B × B × B × B)
 | [a] => some (a, a, a, a)
 | [a, b] => some (a, b, a, b)
 | [a, b, c] => some (a, b, c, b)
 | [a, b, c, d] => some (a, b, c, d)
 | _ => none
theorem rexpand_four {d : PDecl} {L : List B} (hn : d.name = edgeName) (hL : splitB d.val = L) : pExpand d = (four L).map fun x => edges x.1 x.2.1 x.2.2.1 x.2.2.2 d.strong := by
 unfold pExpand
 rw [if_pos hn, hL]
 match L with
 | [] => rfl
 | [a] => rfl
 | [a, b] => rfl
 | [a, b, c] => rfl
 | [a, b, c, e] => rfl
 | a :: b :: c :: e :: x :: L => rfl
def edgesBlock (a b c d : B) : Array Value := #[.string (str edgeTop), .string (str a), .string (str edgeRight), .string (str b), .string (str edgeBottom), .string (str c), .string (str edgeLeft), .string (str d)]
theorem edges_at {a b c d : B} (st : Bool) (k : Nat) (hk : k < 4) : ∃ x y, (edgesBlock a b c d)[k * 2]? = some (.string (str x)) ∧ (edgesBlock a b c d)[k * 2 + 1]? = some (.string (str y)) ∧ (edges a b c d st)[k]? = some ⟨x, y, st⟩ := by
 match k, hk with
 | 0, _ => exact ⟨_, _, rfl, rfl, rfl⟩
 | 1, _ => exact ⟨_, _, rfl, rfl, rfl⟩
 | 2, _ => exact ⟨_, _, rfl, rfl, rfl⟩
 | 3, _ => exact ⟨_, _, rfl, rfl, rfl⟩
structure QLoop (w wr : World) (base c d : Nat) (oc od : Obj) (l : Value) (n : Nat) (xs : List PDecl) (k : Nat) (X : List PDecl) : Prop where
 own : wr.ownsRow base 59 3 l (n + k) ((xs ++ X.take k).map declCells).flatten
 kept : Kept (fun _ => False) w wr
 bc : wr.heap[c]? = some oc
 bd : wr.heap[d]? = some od
 ne : l.ownBlock ≠ some c ∧ l.ownBlock ≠ some d
theorem QLoop.form {w wr : World} {base c d n k : Nat} {oc od : Obj} {l : Value} {xs X : List PDecl} (h : QLoop w wr base c d oc od l n xs k X) : ∃ vo vc, l = .slice vo (n + k) vc := by
 rcases h.own.2 with ⟨h, hn⟩ | ⟨g, cap, cur, h, _⟩
 ·exact ⟨none, 0, by rw [h, hn]⟩
 ·exact ⟨_, cap, h⟩
set_option maxRecDepth 100000 in
set_option maxHeartbeats 3200000 in
theorem rall_any (w : World) (v : Value) (ds : List PDecl) (h : DeclsAt w v ds) (hN : ds.length ≤ 5000000) (hone : ∀ d ∈ ds, d.val.length ≤ 1048576) :
  Calls Tryz.prog 36 #[v] w (AllEnds w (pAll ds)) := by
 obtain ⟨av, cv, rfl, hcv1, hcv2⟩ := h.form
 unfold maxLen at hcv2
 obtain ⟨base, HBASE⟩ : ∃ base, Hid (w.heap.size = base) := ⟨_, rfl⟩
 obtain ⟨R, HR⟩ : ∃ R, Hid (pAll ds = R) := ⟨_, rfl⟩
 rw [HR.out]
 obtain ⟨i0, hi0, hz0, hz1, hz2⟩ := info_parts info_decl
 have H := Lib.hid h
 have HONE := Lib.hid hone
 clear h hone
 go_enter Tryz.func36, Tryz.ntmps36
 go_wp2_with fail
 go_loopw [4, 16] (fun l i wr => ∃ (k n : Nat) (xs : List PDecl), k ≤ ds.length ∧ i = .int .i64 k ∧ ALoop w wr base l ds k n xs) (fun _ i _ => ds.length - (intOf i).toNat)
 case atStart => exact ⟨0, 0, [], by omega, rfl, World.ownsRow_nil _ _ _ _, Kept.refl _ _, rfl, rfl, by omega⟩
 case round =>
  obtain ⟨i, n, xs, hi, rfl, hL⟩ := hrel
  obtain ⟨lo, lc, rfl⟩ := hL.form
  have HL := Lib.hid hL
  obtain ⟨hn1, hn2⟩ := hL.len
  clear hL hn1
  obtain ⟨wr0, hwr0⟩ : ∃ x, x = wr := ⟨_, rfl⟩
  subst hwr0
  by_cases hlt : i < ds.length
  ·have hx := List.getElem?_eq_getElem hlt
   generalize hgx : ds[i] = x at hx
   clear hgx
   obtain ⟨b, off, rfl, g0, g1, g2⟩ := DeclsAt.at (decls_firm.kept H.out HL.out.kept) hx
   have hxl := HONE.out x (List.mem_of_getElem? hx)
   have HX := Lib.hid hx
   clear hx
   go_upto_region 5 with fail
   obtain ⟨wa, HWA⟩ : ∃ x', Hid (wr0.alloc (.cells #[.string (str x.name), .string (str x.val), .bool x.strong] 59 (0,0)) = x') := ⟨_, rfl⟩
   have ka : Kept (fun _ => False) w wa := by rw [← HWA.out]; exact HL.out.kept.alloc _
   have how : wa.ownsRow base 59 3 (.slice lo n lc) n (xs.map declCells).flatten := by rw [← HWA.out]; exact HL.out.own.alloc _
   have hn : wa.heap[wr0.heap.size]? = some (.cells #[.string (str x.name), .string (str x.val), .bool x.strong] 59 (0,0)) := by rw [← HWA.out]; exact newIn wr0 _
   have n0 : wa.cell? ⟨wr0.heap.size, 0, none⟩ = some (.string (str x.name)) := cellIn hn 0 rfl
   have n1 : wa.cell? ⟨wr0.heap.size, 1, none⟩ = some (.string (str x.val)) := cellIn hn 1 rfl
   have n2 : wa.cell? ⟨wr0.heap.size, 2, none⟩ = some (.bool x.strong) := cellIn hn 2 rfl
   have hsz : base ≤ wa.heap.size := by have := ka.size; have := HBASE.out; omega
   have KA := Lib.hid ka
   have HOW := Lib.hid how
   have HN := Lib.hid hn
   clear ka g0 g1 g2 hn
   rw [HWA.out]
   by_cases hed : x.name = edgeName
   ·have g : (x.name == [101, 100, 103, 101]) = true := by rw [hed]; rfl
    have HED := Lib.hid hed
    clear hed how
    go_wp2_with fail
    refine (words_any x.val wa hxl).mono ?_
    rintro e w2 ⟨v2, rfl, hb2, hr2, ho2⟩
    obtain ⟨L, HLL⟩ : ∃ L, Hid (splitB x.val = L) := ⟨_, rfl⟩
    rw [HLL.out] at hr2
    have hne : L ≠ [] := by rw [← HLL.out]; exact splitB_ne _
    obtain ⟨yb, yo, cap2, rfl, hc1, hc2, hcell⟩ : ∃ yb yo cap2, v2 = .slice (some ⟨yb, yo, none⟩) L.length cap2 ∧ L.length ≤ cap2 ∧ cap2 ≤ maxLen ∧ ∀ j y, L[j]? = some y → w2.cell? ⟨yb, yo + j, none⟩ = some (.string (str y)) := by
     obtain ⟨a, cap, rfl, h1, h2, h3⟩ := hr2
     obtain ⟨yb, yo, rfl, h4⟩ := h3 (by simpa using hne)
     exact ⟨yb, yo, cap, by rw [List.length_map], by simpa using h1, h2, fun j y hy => by simpa using h4 j (strCells y) (by simp [hy]) 0 _ rfl⟩
    unfold maxLen at hc2
    have k2 := KA.out.trans (Kept.of_below (S := fun _ => False) hb2)
    have hn2' := (Kept.of_below (S := fun _ => False) hb2).heap id HN.out
    have how2 := owns_kept HOW.out (Kept.of_below (S := fun _ => False) hb2) (fun _ _ => id)
    have hsz2 : base ≤ w2.heap.size := by have := hb2.size; omega
    have K2 := Lib.hid k2
    have HN2 := Lib.hid hn2'
    have HOW2 := Lib.hid how2
    have HC := Lib.hid hcell
    clear k2 hn2' how2 hcell hr2 ho2 hb2 n0 n1 n2
    have hEX := Lib.hid (rexpand_four HED.out HLL.out)
    cases h4 : four L with
    | none =>
     have hl5 : 4 < (L.length : Int) := by
      match L, hne, h4 with
      | a :: b :: c :: e :: y :: L, _, _ => simp; omega
     have hR : Hid (R = none) := Lib.hid (by
      have := all_take HX.out HL.out.all
      rw [hEX.out, h4] at this
      rw [← HR.out]; exact all_none_take this)
     clear h4
     go_wp2_with fail
     refine bodyPost_ret (v := .tuple #[.slice none 0 0, .int .i64 5]) (by simp [results, Tryz.results36, go_sem]) rfl ?_
     rw [hR.out]
     exact ⟨rfl, K2.out.below⟩
    | some t =>
     obtain ⟨ta, tb, tc, td⟩ := t
     have hT : Hid (pAll (ds.take (i + 1)) = some (xs ++ edges ta tb tc td x.strong)) := Lib.hid (by
      have := all_take HX.out HL.out.all
      rw [hEX.out, h4] at this
      exact this)
     have H4 := Lib.hid h4
     clear h4
     have hl4 : L.length ≤ 4 := by
      match L, hne, H4.out with
      | [a], _, _ => simp
      | [a, b], _, _ => simp
      | [a, b, c], _, _ => simp
      | [a, b, c, d], _, _ => simp
     have hl0 : 0 < L.length := List.length_pos_iff.2 hne
     have r0 : w2.cell? ⟨yb, yo, none⟩ = some (.string (str ta)) := by
      have := HC.out 0 ta (by
       match L, hne, H4.out with
       | [a], _, h => cases h; rfl
       | [a, b], _, h => cases h; rfl
       | [a, b, c], _, h => cases h; rfl
       | [a, b, c, d], _, h => cases h; rfl)
      simpa using this
     have r1 : w2.cell? ⟨yb, yo + min 1 (L.length - 1), none⟩ = some (.string (str tb)) := HC.out (min 1 (L.length - 1)) tb (by
       match L, hne, H4.out with
       | [a], _, h => cases h; rfl
       | [a, b], _, h => cases h; rfl
       | [a, b, c], _, h => cases h; rfl
       | [a, b, c, d], _, h => cases h; rfl)
     have r1' : w2.cell? ⟨yb, yo + (min 1 ((L.length : Int) - 1)).toNat, none⟩ = some (.string (str tb)) := by
      rw [show (min 1 ((L.length : Int) - 1)).toNat = min 1 (L.length - 1) from by omega]; exact r1
     have r2 : 2 < L.length → w2.cell? ⟨yb, yo + 2, none⟩ = some (.string (str tc)) := fun hl => HC.out 2 tc (by
       match L, hl, H4.out with
       | [a, b, c], _, h => cases h; rfl
       | [a, b, c, d], _, h => cases h; rfl)
     have r3 : 3 < L.length → w2.cell? ⟨yb, yo + 3, none⟩ = some (.string (str td)) := fun hl => HC.out 3 td (by
       match L, hl, H4.out with
       | [a, b, c, d], _, h => cases h; rfl)
     have e2 : Hid (¬ 2 < L.length → tc = ta) := Lib.hid (by
       match L, hne, H4.out with
       | [a], _, h => cases h; intro _; rfl
       | [a, b], _, h => cases h; intro _; rfl
       | [a, b, c], _, h => simp
       | [a, b, c, d], _, h => simp)
     have e3 : Hid (¬ 3 < L.length → td = tb) := Lib.hid (by
       match L, hne, H4.out with
       | [a], _, h => cases h; intro _; rfl
       | [a, b], _, h => cases h; intro _; rfl
       | [a, b, c], _, h => cases h; intro _; rfl
       | [a, b, c, d], _, h => simp)
     have R2 := Lib.hid r2
     have R3 := Lib.hid r3
     clear r1 r2 r3
     go_upto_if 47 with fail
     go_cut [10] (fun u wx => u = .string (str tc) ∧ wx = w2)
     case first =>
      by_cases h2 : 2 < L.length
      ·have r2 := R2.out h2
       clear r0 r1'
       go_wp2_with fail
       go_meet
       case rel => exact ⟨rfl, rfl⟩
      ·have h2' : ¬ 2 < (L.length : Int) := by omega
       have HE := Lib.hid (e2.out h2)
       go_wp2_with fail
       go_meet
       case rel => exact ⟨by rw [HE.out], rfl⟩
     case rest =>
      obtain ⟨rfl, rfl⟩ := hcut
      clear r0 r1'
      go_upto_if 53 with fail
      go_cut [11] (fun u wx => u = .string (str td) ∧ wx = wc)
      case first =>
       by_cases h2 : 3 < L.length
       ·have r2 := R3.out h2
        go_wp2_with fail
        go_meet
        case rel => exact ⟨rfl, rfl⟩
       ·have h2' : ¬ 3 < (L.length : Int) := by omega
        have HE := Lib.hid (e3.out h2)
        go_wp2_with fail
        go_meet
        case rel => exact ⟨by rw [HE.out], rfl⟩
      case rest =>
       obtain ⟨rfl, rfl⟩ := hcut
       go_upto_block 2 with fail
       obtain ⟨wb, HWB⟩ : ∃ y, Hid (wc.alloc (.cells #[.string ⟨#[101, 100, 103, 101, 45, 116, 111, 112]⟩, .string (str ta), .string ⟨#[101, 100, 103, 101, 45, 114, 105, 103, 104, 116]⟩, .string (str tb), .string ⟨#[101, 100, 103, 101, 45, 98, 111, 116, 116, 111, 109]⟩, .string (str tc), .string ⟨#[101, 100, 103, 101, 45, 108, 101, 102, 116]⟩, .string (str td)] 152 (0, 0)) = y) := ⟨_, rfl⟩
       have hB : wb.heap[wc.heap.size]? = some (.cells (edgesBlock ta tb tc td) 152 (0, 0)) := by rw [← HWB.out]; exact newIn wc _
       have kB : Kept (fun _ => False) wc wb := by rw [← HWB.out]; exact (Kept.refl _ wc).alloc _
       have howB : wb.ownsRow base 59 3 (.slice lo n lc) n (xs.map declCells).flatten := by rw [← HWB.out]; exact HOW2.out.alloc _
       have HB := Lib.hid hB
       have KB := Lib.hid kB
       have HNB := Lib.hid (kB.heap id HN2.out)
       have HOWB := Lib.hid howB
       obtain ⟨Y, HY⟩ : ∃ y, Hid (edges ta tb tc td x.strong = y) := ⟨_, rfl⟩
       have HF : Hid (∀ k, k < 4 → ∃ x' y, (edgesBlock ta tb tc td)[k * 2]? = some (.string (str x')) ∧ (edgesBlock ta tb tc td)[k * 2 + 1]? = some (.string (str y)) ∧ Y[k]? = some ⟨x', y, x.strong⟩) := Lib.hid (by rw [← HY.out]; exact edges_at x.strong)
       have HY4 : Hid (Y.length = 4) := Lib.hid (by rw [← HY.out]; rfl)
       rw [HY.out] at hT
       rw [HWB.out]
       clear hB kB howB
       go_wp2_with fail
       go_loopw [4, 67] (fun l i wy => ∃ k : Nat, k ≤ 4 ∧ i = .int .i64 k ∧ QLoop w wy base wc.heap.size wr0.heap.size (.cells (edgesBlock ta tb tc td) 152 (0, 0)) (.cells #[.string (str x.name), .string (str x.val), .bool x.strong] 59 (0,0)) l n xs k Y) (fun _ i _ => 4 - (intOf i).toNat)
       case atStart =>
        refine ⟨0, by omega, rfl, by simpa using HOWB.out, K2.out.trans KB.out, HB.out, HNB.out, fun h => ?_, fun h => ?_⟩
        ·have := (HOW2.out.lt _ h).2; omega
        ·have := (HL.out.own.lt _ h).2; omega
       case round =>
        obtain ⟨k, hk, rfl, hQ⟩ := hrel
        obtain ⟨lo2, lc2, rfl⟩ := hQ.form
        have HQ := Lib.hid hQ
        have how := hQ.own
        clear hQ
        by_cases hk4 : k < 4
        ·obtain ⟨x', y, hx', hy, hY⟩ := HF.out k hk4
         have q0 : wr.cell? ⟨wc.heap.size, k * 2, none⟩ = some (.string (str x')) := cellIn HQ.out.bc _ hx'
         have q1 : wr.cell? ⟨wc.heap.size, k * 2 + 1, none⟩ = some (.string (str y)) := cellIn HQ.out.bc _ hy
         have HYK := Lib.hid hY
         have hsz3 : base ≤ wr.heap.size := by have := HQ.out.kept.size; have := HBASE.out; omega
         have hnx := HQ.out.bd
         have HNX := Lib.hid hnx
         clear hx' hy hY hnx
         go_upto_region 20 with fail
         obtain ⟨wp, HWP⟩ : ∃ z, Hid (wr.alloc (.cells #[.string (str x'), .string (str y)] 152 (0, 0)) = z) := ⟨_, rfl⟩
         have hP : wp.heap[wr.heap.size]? = some (.cells #[.string (str x'), .string (str y)] 152 (0, 0)) := by rw [← HWP.out]; exact newIn wr _
         have kP : Kept (fun _ => False) w wp := by rw [← HWP.out]; exact HQ.out.kept.alloc _
         have howP : wp.ownsRow base 59 3 (.slice lo2 (n + k) lc2) (n + k) ((xs ++ Y.take k).map declCells).flatten := by rw [← HWP.out]; exact HQ.out.own.alloc _
         have p0 : wp.cell? ⟨wr.heap.size, 0, none⟩ = some (.string (str x')) := cellIn hP 0 rfl
         have p1 : wp.cell? ⟨wr.heap.size, 1, none⟩ = some (.string (str y)) := cellIn hP 1 rfl
         have p2 : wp.cell? ⟨wr0.heap.size, 2, none⟩ = some (.bool x.strong) := by
          rw [← HWP.out]; exact cell_alloc (cellIn HNX.out 2 rfl) _
         have hsz4 : base ≤ wp.heap.size := by have := kP.size; have := HBASE.out; omega
         have hbcP : wp.heap[wc.heap.size]? = some (.cells (edgesBlock ta tb tc td) 152 (0, 0)) := by rw [← HWP.out]; exact oldIn HQ.out.bc _
         have hbdP : wp.heap[wr0.heap.size]? = some (.cells #[.string (str x.name), .string (str x.val), .bool x.strong] 59 (0,0)) := by rw [← HWP.out]; exact oldIn HQ.out.bd _
         have HBC := Lib.hid hbcP
         have HBD := Lib.hid hbdP
         clear hbcP hbdP
         have KP := Lib.hid kP
         clear hP kP how q0 q1
         rw [HWP.out]
         go_wp2_with (at_builtin; refine wpList_append_lies _ rfl _ _ _ rfl base 59 i0 _ 3 40 Tryz.underlying38 hi0 hz0 hz1 hz2 rfl (by omega) _ (n + k) _ (by rfl) (howP.alloc _) ⟨wp.heap.size, 0, none⟩ 1 1 (declCells ⟨x', y, x.strong⟩) (by rfl) (by rfl) (World.news_of_block (cs := (declCells ⟨x', y, x.strong⟩).toArray) (t := 59) (fr := (0, 0)) (heap_alloc_new wp _)) (decl_one _) (by omega) (by unfold maxLen; omega) (by omega) (by simp; omega) (wp.heap.size + 1) (by simp) ?_; intro gg cap w4 hown4 hgrow4 hat4 hlt4)
         go_roundw
         case measure => simp [intOf]; omega
         case rel =>
          have keep : ∀ (c : Nat) (o : Obj), wp.heap[c]? = some o → (Value.slice lo2 (n + k) lc2).ownBlock ≠ some c → w4.heap[c]? = some o := fun c o h hne =>
           (hgrow4.block c (by have := ltIn h; simp; omega) (fun e => hne e.symm)).trans (oldIn h _)
          have gne : ∀ (c : Nat) (o : Obj), wp.heap[c]? = some o → (Value.slice lo2 (n + k) lc2).ownBlock ≠ some c → (Value.slice (some ⟨gg, 0, none⟩) (n + k + 1) cap).ownBlock ≠ some c := fun c o h hne e => by
           have := ltIn h
           simp only [Value.ownBlock, Option.some.injEq] at e
           subst e
           rcases hat4 with h4 | h4
           ·exact hne h4
           ·omega
          refine ⟨k + 1, by omega, by go_num, ?_, (KP.out.alloc _).grown hgrow4 (fun j hj => .inr (by have := (howP.lt j hj).1; have := HBASE.out; omega)), keep _ _ HBC.out HQ.out.ne.1, keep _ _ HBD.out HQ.out.ne.2, gne _ _ HBC.out HQ.out.ne.1, gne _ _ HBD.out HQ.out.ne.2⟩
          rw [List.take_add_one, HYK.out, Option.toList_some, ← List.append_assoc, List.map_append, List.flatten_append, List.map_singleton, List.flatten_singleton]
          exact hown4
        ·obtain rfl : k = 4 := by omega
         go_wp2_with fail
         go_roundw
         case measure => simp [intOf]; omega
         case rel =>
          have hY := List.take_of_length_le (i := 4) (Nat.le_of_eq HY4.out)
          have hown := HQ.out.own
          rw [hY] at hown
          refine ⟨i + 1, n + 4, xs ++ Y, by omega, by go_num, hown, HQ.out.kept, hT.out, ?_⟩
          have := HL.out.len
          have := HY4.out
          exact ⟨by rw [List.length_append]; omega, by omega⟩
   ·have g : (x.name == [101, 100, 103, 101]) = false := beq_false_of_ne hed
    have hT : Hid (pAll (ds.take (i + 1)) = some (xs ++ [x])) := Lib.hid (by
     have := all_take HX.out HL.out.all
     rw [show pExpand x = some [x] from by unfold pExpand; rw [if_neg hed]] at this
     exact this)
    clear hed
    go_wp2_with (at_builtin; refine wpList_append_lies _ rfl _ _ _ rfl base 59 i0 _ 3 40 Tryz.underlying38 hi0 hz0 hz1 hz2 rfl (by omega) _ n _ (by rfl) (how.alloc _) ⟨wa.heap.size, 0, none⟩ 1 1 (declCells x) (by rfl) (by rfl) (World.news_of_block (cs := (declCells x).toArray) (t := 59) (fr := (0, 0)) (heap_alloc_new wa _)) (decl_one x) (by omega) (by unfold maxLen; omega) (by omega) (by simp; omega) (wa.heap.size + 1) (by simp) ?_; intro gg cap w4 hown4 hgrow4 hat4 hlt4)
    go_roundw
    case measure => simp [intOf]; omega
    case rel =>
     refine ⟨i + 1, n + 1, xs ++ [x], by omega, by go_num, ?_, (KA.out.alloc _).grown hgrow4 (fun k hk => .inr (by have := (HOW.out.lt k hk).1; have := HBASE.out; omega)), hT.out, ?_⟩
     ·rw [List.map_append, List.flatten_append, List.map_singleton, List.flatten_singleton]; exact hown4
     ·have := HL.out.len
      exact ⟨by rw [List.length_append, List.length_singleton]; omega, by omega⟩
  ·obtain rfl : i = ds.length := by omega
   go_wp2_with fail
   refine bodyPost_ret (v := .tuple #[.slice lo n lc, .int .i64 0]) (by simp [results, Tryz.results36, go_sem]) rfl ?_
   have hall := HL.out.all
   rw [List.take_length] at hall
   rw [← HR.out, hall]
   refine ⟨_, rfl, HL.out.kept.below, rowsAt_of_owns decl_rows (by rw [List.length_map]; exact HL.out.len.1) HL.out.own, fun k hk => ⟨fun hx => by have := (HL.out.own.lt k hk).1; have := HBASE.out; omega, (HL.out.own.lt k hk).2⟩⟩
end Go.Proofs.YtplbdlgmjehckacGreatDoor

namespace Go.Proofs.YtplbdlgmjehckacGreatDoor
open Go.RowKit
set_option linter.unusedVariables false
set_option linter.unusedSimpArgs false
set_option maxRecDepth 100000 in
set_option maxHeartbeats 1600000 in
theorem rin_any (x : B) (ss : List B) (w : World) (v : Value) (hv : StrsAt w v ss) : Calls Tryz.prog 65 #[.string (str x), v] w fun e w' => e = .returned (.bool (ss.contains x)) ∧ w' = w := by
 obtain ⟨sa, sc, rfl, hsc1, hsc2⟩ := StrsAt.form hv
 unfold maxLen at hsc2
 have HV := Lib.hid hv
 clear hv
 go_enter Tryz.func65, Tryz.ntmps65
 go_wp2_with fail
 go_loopw [9] (fun c wr => ∃ i : Nat, i ≤ ss.length ∧ c = .int .i64 (i : Int) ∧ wr = w ∧ Hid ((ss.drop i).contains x = ss.contains x)) (fun c _ => ss.length - (intOf c).toNat)
 case atStart => exact ⟨0, by omega, rfl, rfl, Lib.hid rfl⟩
 case round =>
  obtain ⟨i, hi, rfl, rfl, HC⟩ := hrel
  by_cases hlt : i < ss.length
  ·have hx := List.getElem?_eq_getElem hlt
   have hdr := List.drop_eq_getElem_cons hlt
   generalize hgx : ss[i] = y at hx hdr
   clear hgx
   obtain ⟨b, off, rfl, g0⟩ := StrsAt.at HV.out hx
   have hc := HC.out
   rw [hdr, List.contains_cons] at hc
   cases hxy : (x == y) with
   | true =>
    have hyx : (y == x) = true := by rw [beq_iff_eq] at hxy ⊢; exact hxy.symm
    rw [hxy, Bool.true_or] at hc
    have HE := Lib.hid hc
    clear hc hx hdr
    go_wp2_with fail
    go_ret
    exact ⟨retb HE.out, rfl⟩
   | false =>
    have hyx : (y == x) = false := by rw [beq_eq_false_iff_ne] at hxy ⊢; exact fun h => hxy h.symm
    rw [hxy, Bool.false_or] at hc
    have HE := Lib.hid hc
    clear hc hx hdr
    go_wp2_with fail
    go_roundw
    case measure => simp [intOf]; omega
    case rel => exact ⟨i + 1, by omega, by go_num, (by first | rfl | trivial), HE⟩
  ·obtain rfl : i = ss.length := by omega
   have hc := HC.out
   rw [List.drop_length] at hc
   have HE := Lib.hid hc
   clear hc
   go_wp2_with fail
   go_ret
   exact ⟨retb HE.out, rfl⟩
def rTouch (ns : List PNode) (k : Int) (r : PRule) (name : B) : Bool := (mBest ns k r.sels).2 && ((pAll r.decls).getD []).any fun d => d.name == name
set_option maxRecDepth 100000 in
set_option maxHeartbeats 3200000 in
theorem rtouch_any (ns : List PNode) (hns : MtCtx ns) (r : PRule) (u : Value) (m : Int) (name : B) (w : World) (v : Value) (k : Int) (hv : NodesAt w v ns) (hr : RuleAt w u r) (hf : FewTests r.sels) (hk : -9223372036854775808 ≤ k ∧ k ≤ 9223372036854775807) (hm : w.cell? ⟨0, 0, none⟩ = some (.int .i64 m))
  (hN : r.decls.length ≤ 5000000) (hone : ∀ d ∈ r.decls, d.val.length ≤ 1048576) :
  Calls Tryz.prog 23 #[v, .int .i64 k, ruleVal r u, .string (str name)] w fun e w' => e = .returned (.bool (rTouch ns k r name)) ∧ Kept (fun _ => False) w w' := by
 obtain ⟨sv, dv, rfl, hs, hd⟩ := hr
 obtain ⟨na, ncap, rfl, hnc1, hnc2⟩ := hv.form
 obtain ⟨sa, scap, rfl, hsc1, hsc2⟩ := NestAt.form hs
 obtain ⟨da, dcap, rfl, hdc1, hdc2⟩ := DeclsAt.form hd
 unfold maxLen at hnc2 hsc2 hdc2
 show Calls Tryz.prog 23 #[.slice na ns.length ncap, .int .i64 k, .agg #[.string (str r.media), .slice sa r.sels.length scap, .slice da r.decls.length dcap, .int .i64 r.lo, .int .i64 r.hi], .string (str name)] w _
 obtain ⟨wb, HWB⟩ : ∃ x, Hid (w.alloc (.cells #[.string (str r.media), .slice sa r.sels.length scap, .slice da r.decls.length dcap, .int .i64 r.lo, .int .i64 r.hi] 42 (0, 0)) = x) := ⟨_, Lib.hid rfl⟩
 have hkb : Kept (fun _ => False) w wb := by rw [← HWB.out]; exact (Kept.refl _ w).alloc _
 have hb0 : wb.heap[w.heap.size]? = some (.cells #[.string (str r.media), .slice sa r.sels.length scap, .slice da r.decls.length dcap, .int .i64 r.lo, .int .i64 r.hi] 42 (0, 0)) := by rw [← HWB.out]; exact newIn w _
 have HBE := rbest_any ns hns r (.tuple #[.slice sa r.sels.length scap, .slice da r.decls.length dcap]) m wb (.slice na ns.length ncap) k (nodes_firm.kept hv hkb) ⟨_, _, rfl, sels_firm.kept hs hkb, decls_firm.kept hd hkb⟩ hf hk (hkb.cell id hm)
 obtain ⟨B0, HB0⟩ : ∃ x, Hid (mBest ns k r.sels = x) := ⟨_, Lib.hid rfl⟩
 rw [HB0.out] at HBE
 replace HBE := Lib.hid HBE
 obtain ⟨R, HR⟩ : ∃ x, Hid (rTouch ns k r name = x) := ⟨_, Lib.hid rfl⟩
 rw [HR.out]
 have HD := Lib.hid (decls_firm.kept hd hkb)
 have HKB := Lib.hid hkb
 have HBX := Lib.hid hb0
 have HONE := Lib.hid hone
 have b0 := cellIn hb0 0 rfl
 have b1 := cellIn hb0 1 rfl
 have b2 := cellIn hb0 2 rfl
 have b3 := cellIn hb0 3 rfl
 have b4 := cellIn hb0 4 rfl
 clear hv hs hd hm hf hb0 hkb hone
 go_enter Tryz.func23, Tryz.ntmps23
 go_upto_region 1 with fail
 rw [HWB.out]
 go_wp2_with fail
 refine HBE.out.mono ?_
 intro e w2 he2
 obtain ⟨⟨xa, xb, xc⟩, q⟩ := B0
 obtain ⟨rfl, hk2⟩ := he2
 unfold wtVal
 obtain ⟨w3, HW3⟩ : ∃ x, Hid (w2.alloc (.cells #[.int .i64 (xa : Int), .int .i64 (xb : Int), .int .i64 (xc : Int)] 119 (0, 0)) = x) := ⟨_, Lib.hid rfl⟩
 have hk3 : Kept (fun _ => False) wb w3 := by rw [← HW3.out]; exact hk2.alloc _
 have HK3 := Lib.hid hk3
 have d2 := cellIn (hk3.heap id HBX.out) 2 rfl
 have HR2 : Hid (rTouch ns k r name = (q && ((pAll r.decls).getD []).any fun d => d.name == name)) := Lib.hid (by unfold rTouch; rw [HB0.out])
 clear hk2 hk3 b0 b1 b2 b3 b4
 go_upto_region 2 with fail
 rw [HW3.out]
 cases q with
 | false =>
  have hr : R = false := by rw [← HR.out, HR2.out]; rfl
  subst hr
  go_wp2_with fail
  go_ret
  exact ⟨rfl, HKB.out.trans HK3.out⟩
 | true =>
  have HRR : Hid ((((pAll r.decls).getD []).any fun d => d.name == name) = R) := Lib.hid (by rw [← HR.out, HR2.out]; rfl)
  go_wp2_with fail
  refine (rall_any w3 _ r.decls (decls_firm.kept HD.out HK3.out) hN HONE.out).mono ?_
  intro e w4 he4
  have hall : ∃ dv er x, e = .returned (.tuple #[dv, .int .i64 er]) ∧ Kept (fun _ => False) w3 w4 ∧ DeclsAt w4 dv x ∧ (pAll r.decls).getD [] = x := by
   cases hp : pAll r.decls with
   | none => rw [hp] at he4; exact ⟨_, _, [], he4.1, Kept.of_below he4.2, RowsAt.nil _ _, rfl⟩
   | some x => rw [hp] at he4; obtain ⟨dv, h1, h2, h3⟩ := he4; exact ⟨dv, _, x, h1, Kept.of_below h2, h3.1, rfl⟩
  obtain ⟨dv, er, x, rfl, hk4, hd4, hx⟩ := hall
  obtain ⟨xa', xc', rfl, hxc1, hxc2⟩ := DeclsAt.form hd4
  unfold maxLen at hxc2
  have hrr := HRR.out
  rw [hx] at hrr
  have HX := Lib.hid hrr
  have HK4 := Lib.hid (HK3.out.trans hk4)
  have HD4 := Lib.hid hd4
  clear he4 hk4 hd4 hx hrr d2
  go_wp2_with fail
  go_loopw [32] (fun c wr => ∃ i : Nat, i ≤ x.length ∧ c = .int .i64 (i : Int) ∧ Hid (Kept (fun _ => False) w4 wr) ∧ Hid (((x.drop i).any fun d => d.name == name) = R)) (fun c _ => x.length - (intOf c).toNat)
  case atStart => exact ⟨0, by omega, rfl, Lib.hid (Kept.refl _ _), HX⟩
  case round =>
   obtain ⟨i, hi, rfl, HK, HA⟩ := hrel
   obtain ⟨wr0, hwr0⟩ : ∃ x, x = wr := ⟨_, rfl⟩
   subst hwr0
   by_cases hlt : i < x.length
   ·have hy := List.getElem?_eq_getElem hlt
    have hdr := List.drop_eq_getElem_cons hlt
    generalize hgy : x[i] = y at hy hdr
    clear hgy
    obtain ⟨b, off, rfl, g0, g1, g2⟩ := DeclsAt.at (decls_firm.kept HD4.out HK.out) hy
    have ha := HA.out
    rw [hdr, List.any_cons] at ha
    have HAA := Lib.hid ha
    clear ha hy hdr
    go_upto_region 8 with fail
    obtain ⟨wv, HWV⟩ : ∃ z, Hid (wr0.alloc (.cells #[.string (str y.name), .string (str y.val), .bool y.strong] 59 (0, 0)) = z) := ⟨_, Lib.hid rfl⟩
    have v0 : wv.cell? ⟨wr0.heap.size, 0, none⟩ = some (.string (str y.name)) := by rw [← HWV.out]; exact cellIn (newIn wr0 _) 0 rfl
    have HKV : Hid (Kept (fun _ => False) w4 wv) := Lib.hid (by rw [← HWV.out]; exact HK.out.alloc _)
    rw [HWV.out]
    clear g0 g1 g2
    cases hn : (y.name == name) with
    | true =>
     have hr : R = true := by rw [← HAA.out, hn, Bool.true_or]
     subst hr
     go_wp2_with fail
     go_ret
     exact ⟨rfl, (HKB.out.trans HK4.out).trans HKV.out⟩
    | false =>
     have HA2 : Hid (((x.drop (i + 1)).any fun d => d.name == name) = R) := Lib.hid (by rw [← HAA.out, hn, Bool.false_or])
     go_wp2_with fail
     go_roundw
     case measure => simp [intOf]; omega
     case rel => exact ⟨i + 1, by omega, by go_num, HKV, HA2⟩
   ·obtain rfl : i = x.length := by omega
    have hr : R = false := by rw [← HA.out, List.drop_length]; rfl
    subst hr
    go_wp2_with fail
    go_ret
    exact ⟨rfl, (HKB.out.trans HK4.out).trans HK.out⟩
end Go.Proofs.YtplbdlgmjehckacGreatDoor

