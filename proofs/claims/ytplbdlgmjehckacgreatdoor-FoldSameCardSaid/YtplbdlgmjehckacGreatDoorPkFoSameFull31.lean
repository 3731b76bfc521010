/-
 Lemmas for the claims of this seat: the program's functions walked, and plain laws. In this order: R3All R3Touch FoSetsW.
-/
import Derived.Test.YtplbdlgmjehckacGreatDoorPk16
import Derived.Test.YtplbdlgmjehckacGreatDoorPkFoSameFull30
import Derived.Test.YtplbdlgmjehckacGreatDoorPkFoSameFull28
import Derived.Test.YtplbdlgmjehckacGreatDoorPkFoSameFull27
import Derived.Deep.DeepCutAuto
import Derived.Deep.CutBlock
namespace Go.Proofs.YtplbdlgmjehckacGreatDoor
open Go.RowKit
set_option linter.unusedVariables false
set_option linter.unusedSimpArgs false
def rpairV (a b : B) : Value := .agg #[.string (str a), .string (str b)]
def rpairCells (a b : B) : List Value := [.string (str a), .string (str b)]
def four : List B → Option (B × B × B × B)
 | [a] => some (a, a, a, a)
 | [a, b] => some (a, b, a, b)
 | [a, b, c] => some (a, b, c, b)
 | [a, b, c, d] => some (a, b, c, d)
 | _ => none
theorem rexpand_four {d : PDecl} {L : List B} (hn : d.name = edgeName) (hL : splitB d.val = L) : pExpand d = (four L).map fun x => edges x.1 x.2.1 x.2.2.1 x.2.2.2 d.strong := by
 unfold pExpand
 rw [if_pos hn, hL]
 match L with
 | [] => rfl
 | [a] => rfl
 | [a, b] => rfl
 | [a, b, c] => rfl
 | [a, b, c, e] => rfl
 | a :: b :: c :: e :: x :: L => rfl
def edgesBlock (a b c d : B) : Array Value := #[.string (str edgeTop), .string (str a), .string (str edgeRight), .string (str b), .string (str edgeBottom), .string (str c), .string (str edgeLeft), .string (str d)]
theorem edges_at {a b c d : B} (st : Bool) (k : Nat) (hk : k < 4) : ∃ x y, (edgesBlock a b c d)[k * 2]? = some (.string (str x)) ∧ (edgesBlock a b c d)[k * 2 + 1]? = some (.string (str y)) ∧ (edges a b c d st)[k]? = some ⟨x, y, st⟩ := by
 match k, hk with
 | 0, _ => exact ⟨_, _, rfl, rfl, rfl⟩
 | 1, _ => exact ⟨_, _, rfl, rfl, rfl⟩
 | 2, _ => exact ⟨_, _, rfl, rfl, rfl⟩
 | 3, _ => exact ⟨_, _, rfl, rfl, rfl⟩
structure QLoop (w wr : World) (base c d : Nat) (oc od : Obj) (l : Value) (n : Nat) (xs : List PDecl) (k : Nat) (X : List PDecl) : Prop where
 own : wr.ownsRow base 59 3 l (n + k) ((xs ++ X.take k).map declCells).flatten
 kept : Kept (fun _ => False) w wr
 bc : wr.heap[c]? = some oc
 bd : wr.heap[d]? = some od
 ne : l.ownBlock ≠ some c ∧ l.ownBlock ≠ some d
theorem QLoop.form {w wr : World} {base c d n k : Nat} {oc od : Obj} {l : Value} {xs X : List PDecl} (h : QLoop w wr base c d oc od l n xs k X) : ∃ vo vc, l = .slice vo (n + k) vc := by
 rcases h.own.2 with ⟨h, hn⟩ | ⟨g, cap, cur, h, _⟩
 ·exact ⟨none, 0, by rw [h, hn]⟩
 ·exact ⟨_, cap, h⟩
set_option maxRecDepth 100000 in
set_option maxHeartbeats 3200000 in
theorem rall_any (w : World) (v : Value) (ds : List PDecl) (h : DeclsAt w v ds) (hN : ds.length ≤ 5000000) (hone : ∀ d ∈ ds, d.val.length ≤ 1048576) :
  Calls Tryz.prog 36 #[v] w (AllEnds w (pAll ds)) := by
 obtain ⟨av, cv, rfl, hcv1, hcv2⟩ := h.form
 unfold maxLen at hcv2
 obtain ⟨base, HBASE⟩ : ∃ base, Hid (w.heap.size = base) := ⟨_, rfl⟩
 obtain ⟨R, HR⟩ : ∃ R, Hid (pAll ds = R) := ⟨_, rfl⟩
 rw [HR.out]
 obtain ⟨i0, hi0, hz0, hz1, hz2⟩ := info_parts info_decl
 have H := Lib.hid h
 have HONE := Lib.hid hone
 clear h hone
 go_enter Tryz.func36, Tryz.ntmps36
 go_wp2_with fail
 go_loopw [4, 16] (fun l i wr => ∃ (k n : Nat) (xs : List PDecl), k ≤ ds.length ∧ i = .int .i64 k ∧ ALoop w wr base l ds k n xs) (fun _ i _ => ds.length - (intOf i).toNat)
 case atStart => exact ⟨0, 0, [], by omega, rfl, World.ownsRow_nil _ _ _ _, Kept.refl _ _, rfl, rfl, by omega⟩
 case round =>
  obtain ⟨i, n, xs, hi, rfl, hL⟩ := hrel
  obtain ⟨lo, lc, rfl⟩ := hL.form
  have HL := Lib.hid hL
  obtain ⟨hn1, hn2⟩ := hL.len
  clear hL hn1
  obtain ⟨wr0, hwr0⟩ : ∃ x, x = wr := ⟨_, rfl⟩
  subst hwr0
  by_cases hlt : i < ds.length
  ·have hx := List.getElem?_eq_getElem hlt
   generalize hgx : ds[i] = x at hx
   clear hgx
   obtain ⟨b, off, rfl, g0, g1, g2⟩ := DeclsAt.at (decls_firm.kept H.out HL.out.kept) hx
   have hxl := HONE.out x (List.mem_of_getElem? hx)
   have HX := Lib.hid hx
   clear hx
   go_upto_region 5 with fail
   obtain ⟨wa, HWA⟩ : ∃ x', Hid (wr0.alloc (.cells #[.string (str x.name), .string (str x.val), .bool x.strong] 59 (0,0)) = x') := ⟨_, rfl⟩
   have ka : Kept (fun _ => False) w wa := by rw [← HWA.out]; exact HL.out.kept.alloc _
   have how : wa.ownsRow base 59 3 (.slice lo n lc) n (xs.map declCells).flatten := by rw [← HWA.out]; exact HL.out.own.alloc _
   have hn : wa.heap[wr0.heap.size]? = some (.cells #[.string (str x.name), .string (str x.val), .bool x.strong] 59 (0,0)) := by rw [← HWA.out]; exact newIn wr0 _
   have n0 : wa.cell? ⟨wr0.heap.size, 0, none⟩ = some (.string (str x.name)) := cellIn hn 0 rfl
   have n1 : wa.cell? ⟨wr0.heap.size, 1, none⟩ = some (.string (str x.val)) := cellIn hn 1 rfl
   have n2 : wa.cell? ⟨wr0.heap.size, 2, none⟩ = some (.bool x.strong) := cellIn hn 2 rfl
   have hsz : base ≤ wa.heap.size := by have := ka.size; have := HBASE.out; omega
   have KA := Lib.hid ka
   have HOW := Lib.hid how
   have HN := Lib.hid hn
   clear ka g0 g1 g2 hn
   rw [HWA.out]
   by_cases hed : x.name = edgeName
   ·have g : (x.name == [101, 100, 103, 101]) = true := by rw [hed]; rfl
    have HED := Lib.hid hed
    clear hed how
    go_wp2_with fail
    refine (words_any x.val wa hxl).mono ?_
    rintro e w2 ⟨v2, rfl, hb2, hr2, ho2⟩
    obtain ⟨L, HLL⟩ : ∃ L, Hid (splitB x.val = L) := ⟨_, rfl⟩
    rw [HLL.out] at hr2
    have hne : L ≠ [] := by rw [← HLL.out]; exact splitB_ne _
    obtain ⟨yb, yo, cap2, rfl, hc1, hc2, hcell⟩ : ∃ yb yo cap2, v2 = .slice (some ⟨yb, yo, none⟩) L.length cap2 ∧ L.length ≤ cap2 ∧ cap2 ≤ maxLen ∧ ∀ j y, L[j]? = some y → w2.cell? ⟨yb, yo + j, none⟩ = some (.string (str y)) := by
     obtain ⟨a, cap, rfl, h1, h2, h3⟩ := hr2
     obtain ⟨yb, yo, rfl, h4⟩ := h3 (by simpa using hne)
     exact ⟨yb, yo, cap, by rw [List.length_map], by simpa using h1, h2, fun j y hy => by simpa using h4 j (strCells y) (by simp [hy]) 0 _ rfl⟩
    unfold maxLen at hc2
    have k2 := KA.out.trans (Kept.of_below (S := fun _ => False) hb2)
    have hn2' := (Kept.of_below (S := fun _ => False) hb2).heap id HN.out
    have how2 := owns_kept HOW.out (Kept.of_below (S := fun _ => False) hb2) (fun _ _ => id)
    have hsz2 : base ≤ w2.heap.size := by have := hb2.size; omega
    have K2 := Lib.hid k2
    have HN2 := Lib.hid hn2'
    have HOW2 := Lib.hid how2
    have HC := Lib.hid hcell
    clear k2 hn2' how2 hcell hr2 ho2 hb2 n0 n1 n2
    have hEX := Lib.hid (rexpand_four HED.out HLL.out)
    cases h4 : four L with
    | none =>
     have hl5 : 4 < (L.length : Int) := by
      match L, hne, h4 with
      | a :: b :: c :: e :: y :: L, _, _ => simp; omega
     have hR : Hid (R = none) := Lib.hid (by
      have := all_take HX.out HL.out.all
      rw [hEX.out, h4] at this
      rw [← HR.out]; exact all_none_take this)
     clear h4
     go_wp2_with fail
     refine bodyPost_ret (v := .tuple #[.slice none 0 0, .int .i64 5]) (by simp [results, Tryz.results36, go_sem]) rfl ?_
     rw [hR.out]
     exact ⟨rfl, K2.out.below⟩
    | some t =>
     obtain ⟨ta, tb, tc, td⟩ := t
     have hT : Hid (pAll (ds.take (i + 1)) = some (xs ++ edges ta tb tc td x.strong)) := Lib.hid (by
      have := all_take HX.out HL.out.all
      rw [hEX.out, h4] at this
      exact this)
     have H4 := Lib.hid h4
     clear h4
     have hl4 : L.length ≤ 4 := by
      match L, hne, H4.out with
      | [a], _, _ => simp
      | [a, b], _, _ => simp
      | [a, b, c], _, _ => simp
      | [a, b, c, d], _, _ => simp
     have hl0 : 0 < L.length := List.length_pos_iff.2 hne
     have r0 : w2.cell? ⟨yb, yo, none⟩ = some (.string (str ta)) := by
      have := HC.out 0 ta (by
       match L, hne, H4.out with
       | [a], _, h => cases h; rfl
       | [a, b], _, h => cases h; rfl
       | [a, b, c], _, h => cases h; rfl
       | [a, b, c, d], _, h => cases h; rfl)
      simpa using this
     have r1 : w2.cell? ⟨yb, yo + min 1 (L.length - 1), none⟩ = some (.string (str tb)) := HC.out (min 1 (L.length - 1)) tb (by
       match L, hne, H4.out with
       | [a], _, h => cases h; rfl
       | [a, b], _, h => cases h; rfl
       | [a, b, c], _, h => cases h; rfl
       | [a, b, c, d], _, h => cases h; rfl)
     have r1' : w2.cell? ⟨yb, yo + (min 1 ((L.length : Int) - 1)).toNat, none⟩ = some (.string (str tb)) := by
      rw [show (min 1 ((L.length : Int) - 1)).toNat = min 1 (L.length - 1) from by omega]; exact r1
     have r2 : 2 < L.length → w2.cell? ⟨yb, yo + 2, none⟩ = some (.string (str tc)) := fun hl => HC.out 2 tc (by
       match L, hl, H4.out with
       | [a, b, c], _, h => cases h; rfl
       | [a, b, c, d], _, h => cases h; rfl)
     have r3 : 3 < L.length → w2.cell? ⟨yb, yo + 3, none⟩ = some (.string (str td)) := fun hl => HC.out 3 td (by
       match L, hl, H4.out with
       | [a, b, c, d], _, h => cases h; rfl)
     have e2 : Hid (¬ 2 < L.length → tc = ta) := Lib.hid (by
       match L, hne, H4.out with
       | [a], _, h => cases h; intro _; rfl
       | [a, b], _, h => cases h; intro _; rfl
       | [a, b, c], _, h => simp
       | [a, b, c, d], _, h => simp)
     have e3 : Hid (¬ 3 < L.length → td = tb) := Lib.hid (by
       match L, hne, H4.out with
       | [a], _, h => cases h; intro _; rfl
       | [a, b], _, h => cases h; intro _; rfl
       | [a, b, c], _, h => cases h; intro _; rfl
       | [a, b, c, d], _, h => simp)
     have R2 := Lib.hid r2
     have R3 := Lib.hid r3
     clear r1 r2 r3
     go_upto_if 47 with fail
     go_cut [10] (fun u wx => u = .string (str tc) ∧ wx = w2)
     case first =>
      by_cases h2 : 2 < L.length
      ·have r2 := R2.out h2
       clear r0 r1'
       go_wp2_with fail
       go_meet
       case rel => exact ⟨rfl, rfl⟩
      ·have h2' : ¬ 2 < (L.length : Int) := by omega
       have HE := Lib.hid (e2.out h2)
       go_wp2_with fail
       go_meet
       case rel => exact ⟨by rw [HE.out], rfl⟩
     case rest =>
      obtain ⟨rfl, rfl⟩ := hcut
      clear r0 r1'
      go_upto_if 53 with fail
      go_cut [11] (fun u wx => u = .string (str td) ∧ wx = wc)
      case first =>
       by_cases h2 : 3 < L.length
       ·have r2 := R3.out h2
        go_wp2_with fail
        go_meet
        case rel => exact ⟨rfl, rfl⟩
       ·have h2' : ¬ 3 < (L.length : Int) := by omega
        have HE := Lib.hid (e3.out h2)
        go_wp2_with fail
        go_meet
        case rel => exact ⟨by rw [HE.out], rfl⟩
      case rest =>
       obtain ⟨rfl, rfl⟩ := hcut
       go_upto_block 2 with fail
       obtain ⟨wb, HWB⟩ : ∃ y, Hid (wc.alloc (.cells #[.string ⟨#[101, 100, 103, 101, 45, 116, 111, 112]⟩, .string (str ta), .string ⟨#[101, 100, 103, 101, 45, 114, 105, 103, 104, 116]⟩, .string (str tb), .string ⟨#[101, 100, 103, 101, 45, 98, 111, 116, 116, 111, 109]⟩, .string (str tc), .string ⟨#[101, 100, 103, 101, 45, 108, 101, 102, 116]⟩, .string (str td)] 152 (0, 0)) = y) := ⟨_, rfl⟩
       have hB : wb.heap[wc.heap.size]? = some (.cells (edgesBlock ta tb tc td) 152 (0, 0)) := by rw [← HWB.out]; exact newIn wc _
       have kB : Kept (fun _ => False) wc wb := by rw [← HWB.out]; exact (Kept.refl _ wc).alloc _
       have howB : wb.ownsRow base 59 3 (.slice lo n lc) n (xs.map declCells).flatten := by rw [← HWB.out]; exact HOW2.out.alloc _
       have HB := Lib.hid hB
       have KB := Lib.hid kB
       have HNB := Lib.hid (kB.heap id HN2.out)
       have HOWB := Lib.hid howB
       obtain ⟨Y, HY⟩ : ∃ y, Hid (edges ta tb tc td x.strong = y) := ⟨_, rfl⟩
       have HF : Hid (∀ k, k < 4 → ∃ x' y, (edgesBlock ta tb tc td)[k * 2]? = some (.string (str x')) ∧ (edgesBlock ta tb tc td)[k * 2 + 1]? = some (.string (str y)) ∧ Y[k]? = some ⟨x', y, x.strong⟩) := Lib.hid (by rw [← HY.out]; exact edges_at x.strong)
       have HY4 : Hid (Y.length = 4) := Lib.hid (by rw [← HY.out]; rfl)
       rw [HY.out] at hT
       rw [HWB.out]
       clear hB kB howB
       go_wp2_with fail
       go_loopw [4, 67] (fun l i wy => ∃ k : Nat, k ≤ 4 ∧ i = .int .i64 k ∧ QLoop w wy base wc.heap.size wr0.heap.size (.cells (edgesBlock ta tb tc td) 152 (0, 0)) (.cells #[.string (str x.name), .string (str x.val), .bool x.strong] 59 (0,0)) l n xs k Y) (fun _ i _ => 4 - (intOf i).toNat)
       case atStart =>
        refine ⟨0, by omega, rfl, by simpa using HOWB.out, K2.out.trans KB.out, HB.out, HNB.out, fun h => ?_, fun h => ?_⟩
        ·have := (HOW2.out.lt _ h).2; omega
        ·have := (HL.out.own.lt _ h).2; omega
       case round =>
        obtain ⟨k, hk, rfl, hQ⟩ := hrel
        obtain ⟨lo2, lc2, rfl⟩ := hQ.form
        have HQ := Lib.hid hQ
        have how := hQ.own
        clear hQ
        by_cases hk4 : k < 4
        ·obtain ⟨x', y, hx', hy, hY⟩ := HF.out k hk4
         have q0 : wr.cell? ⟨wc.heap.size, k * 2, none⟩ = some (.string (str x')) := cellIn HQ.out.bc _ hx'
         have q1 : wr.cell? ⟨wc.heap.size, k * 2 + 1, none⟩ = some (.string (str y)) := cellIn HQ.out.bc _ hy
         have HYK := Lib.hid hY
         have hsz3 : base ≤ wr.heap.size := by have := HQ.out.kept.size; have := HBASE.out; omega
         have hnx := HQ.out.bd
         have HNX := Lib.hid hnx
         clear hx' hy hY hnx
         go_upto_region 20 with fail
         obtain ⟨wp, HWP⟩ : ∃ z, Hid (wr.alloc (.cells #[.string (str x'), .string (str y)] 152 (0, 0)) = z) := ⟨_, rfl⟩
         have hP : wp.heap[wr.heap.size]? = some (.cells #[.string (str x'), .string (str y)] 152 (0, 0)) := by rw [← HWP.out]; exact newIn wr _
         have kP : Kept (fun _ => False) w wp := by rw [← HWP.out]; exact HQ.out.kept.alloc _
         have howP : wp.ownsRow base 59 3 (.slice lo2 (n + k) lc2) (n + k) ((xs ++ Y.take k).map declCells).flatten := by rw [← HWP.out]; exact HQ.out.own.alloc _
         have p0 : wp.cell? ⟨wr.heap.size, 0, none⟩ = some (.string (str x')) := cellIn hP 0 rfl
         have p1 : wp.cell? ⟨wr.heap.size, 1, none⟩ = some (.string (str y)) := cellIn hP 1 rfl
         have p2 : wp.cell? ⟨wr0.heap.size, 2, none⟩ = some (.bool x.strong) := by
          rw [← HWP.out]; exact cell_alloc (cellIn HNX.out 2 rfl) _
         have hsz4 : base ≤ wp.heap.size := by have := kP.size; have := HBASE.out; omega
         have hbcP : wp.heap[wc.heap.size]? = some (.cells (edgesBlock ta tb tc td) 152 (0, 0)) := by rw [← HWP.out]; exact oldIn HQ.out.bc _
         have hbdP : wp.heap[wr0.heap.size]? = some (.cells #[.string (str x.name), .string (str x.val), .bool x.strong] 59 (0,0)) := by rw [← HWP.out]; exact oldIn HQ.out.bd _
         have HBC := Lib.hid hbcP
         have HBD := Lib.hid hbdP
         clear hbcP hbdP
         have KP := Lib.hid kP
         clear hP kP how q0 q1
         rw [HWP.out]
         go_wp2_with (at_builtin; refine wpList_append_lies _ rfl _ _ _ rfl base 59 i0 _ 3 40 Tryz.underlying38 hi0 hz0 hz1 hz2 rfl (by omega) _ (n + k) _ (by rfl) (howP.alloc _) ⟨wp.heap.size, 0, none⟩ 1 1 (declCells ⟨x', y, x.strong⟩) (by rfl) (by rfl) (World.news_of_block (cs := (declCells ⟨x', y, x.strong⟩).toArray) (t := 59) (fr := (0, 0)) (heap_alloc_new wp _)) (decl_one _) (by omega) (by unfold maxLen; omega) (by omega) (by simp; omega) (wp.heap.size + 1) (by simp) ?_; intro gg cap w4 hown4 hgrow4 hat4 hlt4)
         go_roundw
         case measure => simp [intOf]; omega
         case rel =>
          have keep : ∀ (c : Nat) (o : Obj), wp.heap[c]? = some o → (Value.slice lo2 (n + k) lc2).ownBlock ≠ some c → w4.heap[c]? = some o := fun c o h hne =>
           (hgrow4.block c (by have := ltIn h; simp; omega) (fun e => hne e.symm)).trans (oldIn h _)
          have gne : ∀ (c : Nat) (o : Obj), wp.heap[c]? = some o → (Value.slice lo2 (n + k) lc2).ownBlock ≠ some c → (Value.slice (some ⟨gg, 0, none⟩) (n + k + 1) cap).ownBlock ≠ some c := fun c o h hne e => by
           have := ltIn h
           simp only [Value.ownBlock, Option.some.injEq] at e
           subst e
           rcases hat4 with h4 | h4
           ·exact hne h4
           ·omega
          refine ⟨k + 1, by omega, by go_num, ?_, (KP.out.alloc _).grown hgrow4 (fun j hj => .inr (by have := (howP.lt j hj).1; have := HBASE.out; omega)), keep _ _ HBC.out HQ.out.ne.1, keep _ _ HBD.out HQ.out.ne.2, gne _ _ HBC.out HQ.out.ne.1, gne _ _ HBD.out HQ.out.ne.2⟩
          rw [List.take_add_one, HYK.out, Option.toList_some, ← List.append_assoc, List.map_append, List.flatten_append, List.map_singleton, List.flatten_singleton]
          exact hown4
        ·obtain rfl : k = 4 := by omega
         go_wp2_with fail
         go_roundw
         case measure => simp [intOf]; omega
         case rel =>
          have hY := List.take_of_length_le (i := 4) (Nat.le_of_eq HY4.out)
          have hown := HQ.out.own
          rw [hY] at hown
          refine ⟨i + 1, n + 4, xs ++ Y, by omega, by go_num, hown, HQ.out.kept, hT.out, ?_⟩
          have := HL.out.len
          have := HY4.out
          exact ⟨by rw [List.length_append]; omega, by omega⟩
   ·have g : (x.name == [101, 100, 103, 101]) = false := beq_false_of_ne hed
    have hT : Hid (pAll (ds.take (i + 1)) = some (xs ++ [x])) := Lib.hid (by
     have := all_take HX.out HL.out.all
     rw [show pExpand x = some [x] from by unfold pExpand; rw [if_neg hed]] at this
     exact this)
    clear hed
    go_wp2_with (at_builtin; refine wpList_append_lies _ rfl _ _ _ rfl base 59 i0 _ 3 40 Tryz.underlying38 hi0 hz0 hz1 hz2 rfl (by omega) _ n _ (by rfl) (how.alloc _) ⟨wa.heap.size, 0, none⟩ 1 1 (declCells x) (by rfl) (by rfl) (World.news_of_block (cs := (declCells x).toArray) (t := 59) (fr := (0, 0)) (heap_alloc_new wa _)) (decl_one x) (by omega) (by unfold maxLen; omega) (by omega) (by simp; omega) (wa.heap.size + 1) (by simp) ?_; intro gg cap w4 hown4 hgrow4 hat4 hlt4)
    go_roundw
    case measure => simp [intOf]; omega
    case rel =>
     refine ⟨i + 1, n + 1, xs ++ [x], by omega, by go_num, ?_, (KA.out.alloc _).grown hgrow4 (fun k hk => .inr (by have := (HOW.out.lt k hk).1; have := HBASE.out; omega)), hT.out, ?_⟩
     ·rw [List.map_append, List.flatten_append, List.map_singleton, List.flatten_singleton]; exact hown4
     ·have := HL.out.len
      exact ⟨by rw [List.length_append, List.length_singleton]; omega, by omega⟩
  ·obtain rfl : i = ds.length := by omega
   go_wp2_with fail
   refine bodyPost_ret (v := .tuple #[.slice lo n lc, .int .i64 0]) (by simp [results, Tryz.results36, go_sem]) rfl ?_
   have hall := HL.out.all
   rw [List.take_length] at hall
   rw [← HR.out, hall]
   refine ⟨_, rfl, HL.out.kept.below, rowsAt_of_owns decl_rows (by rw [List.length_map]; exact HL.out.len.1) HL.out.own, fun k hk => ⟨fun hx => by have := (HL.out.own.lt k hk).1; have := HBASE.out; omega, (HL.out.own.lt k hk).2⟩⟩
set_option maxRecDepth 100000 in
set_option maxHeartbeats 1600000 in
theorem rin_any (x : B) (ss : List B) (w : World) (v : Value) (hv : StrsAt w v ss) : Calls Tryz.prog 65 #[.string (str x), v] w fun e w' => e = .returned (.bool (ss.contains x)) ∧ w' = w := by
 obtain ⟨sa, sc, rfl, hsc1, hsc2⟩ := StrsAt.form hv
 unfold maxLen at hsc2
 have HV := Lib.hid hv
 clear hv
 go_enter Tryz.func65, Tryz.ntmps65
 go_wp2_with fail
 go_loopw [9] (fun c wr => ∃ i : Nat, i ≤ ss.length ∧ c = .int .i64 (i : Int) ∧ wr = w ∧ Hid ((ss.drop i).contains x = ss.contains x)) (fun c _ => ss.length - (intOf c).toNat)
 case atStart => exact ⟨0, by omega, rfl, rfl, Lib.hid rfl⟩
 case round =>
  obtain ⟨i, hi, rfl, rfl, HC⟩ := hrel
  by_cases hlt : i < ss.length
  ·have hx := List.getElem?_eq_getElem hlt
   have hdr := List.drop_eq_getElem_cons hlt
   generalize hgx : ss[i] = y at hx hdr
   clear hgx
   obtain ⟨b, off, rfl, g0⟩ := StrsAt.at HV.out hx
   have hc := HC.out
   rw [hdr, List.contains_cons] at hc
   cases hxy : (x == y) with
   | true =>
    have hyx : (y == x) = true := by rw [beq_iff_eq] at hxy ⊢; exact hxy.symm
    rw [hxy, Bool.true_or] at hc
    have HE := Lib.hid hc
    clear hc hx hdr
    go_wp2_with fail
    go_ret
    exact ⟨retb HE.out, rfl⟩
   | false =>
    have hyx : (y == x) = false := by rw [beq_eq_false_iff_ne] at hxy ⊢; exact fun h => hxy h.symm
    rw [hxy, Bool.false_or] at hc
    have HE := Lib.hid hc
    clear hc hx hdr
    go_wp2_with fail
    go_roundw
    case measure => simp [intOf]; omega
    case rel => exact ⟨i + 1, by omega, by go_num, (by first | rfl | trivial), HE⟩
  ·obtain rfl : i = ss.length := by omega
   have hc := HC.out
   rw [List.drop_length] at hc
   have HE := Lib.hid hc
   clear hc
   go_wp2_with fail
   go_ret
   exact ⟨retb HE.out, rfl⟩
def rTouch (ns : List PNode) (k : Int) (r : PRule) (name : B) : Bool := (mBest ns k r.sels).2 && ((pAll r.decls).getD []).any fun d => d.name == name
set_option maxRecDepth 100000 in
set_option maxHeartbeats 3200000 in
theorem rtouch_any (ns : List PNode) (hns : MtCtx ns) (r : PRule) (u : Value) (m : Int) (name : B) (w : World) (v : Value) (k : Int) (hv : NodesAt w v ns) (hr : RuleAt w u r) (hf : FewTests r.sels) (hk : -9223372036854775808 ≤ k ∧ k ≤ 9223372036854775807) (hm : w.cell? ⟨0, 0, none⟩ = some (.int .i64 m))
  (hN : r.decls.length ≤ 5000000) (hone : ∀ d ∈ r.decls, d.val.length ≤ 1048576) :
  Calls Tryz.prog 23 #[v, .int .i64 k, ruleVal r u, .string (str name)] w fun e w' => e = .returned (.bool (rTouch ns k r name)) ∧ Kept (fun _ => False) w w' := by
 obtain ⟨sv, dv, rfl, hs, hd⟩ := hr
 obtain ⟨na, ncap, rfl, hnc1, hnc2⟩ := hv.form
 obtain ⟨sa, scap, rfl, hsc1, hsc2⟩ := NestAt.form hs
 obtain ⟨da, dcap, rfl, hdc1, hdc2⟩ := DeclsAt.form hd
 unfold maxLen at hnc2 hsc2 hdc2
 show Calls Tryz.prog 23 #[.slice na ns.length ncap, .int .i64 k, .agg #[.string (str r.media), .slice sa r.sels.length scap, .slice da r.decls.length dcap, .int .i64 r.lo, .int .i64 r.hi], .string (str name)] w _
 obtain ⟨wb, HWB⟩ : ∃ x, Hid (w.alloc (.cells #[.string (str r.media), .slice sa r.sels.length scap, .slice da r.decls.length dcap, .int .i64 r.lo, .int .i64 r.hi] 42 (0, 0)) = x) := ⟨_, Lib.hid rfl⟩
 have hkb : Kept (fun _ => False) w wb := by rw [← HWB.out]; exact (Kept.refl _ w).alloc _
 have hb0 : wb.heap[w.heap.size]? = some (.cells #[.string (str r.media), .slice sa r.sels.length scap, .slice da r.decls.length dcap, .int .i64 r.lo, .int .i64 r.hi] 42 (0, 0)) := by rw [← HWB.out]; exact newIn w _
 have HBE := rbest_any ns hns r (.tuple #[.slice sa r.sels.length scap, .slice da r.decls.length dcap]) m wb (.slice na ns.length ncap) k (nodes_firm.kept hv hkb) ⟨_, _, rfl, sels_firm.kept hs hkb, decls_firm.kept hd hkb⟩ hf hk (hkb.cell id hm)
 obtain ⟨B0, HB0⟩ : ∃ x, Hid (mBest ns k r.sels = x) := ⟨_, Lib.hid rfl⟩
 rw [HB0.out] at HBE
 replace HBE := Lib.hid HBE
 obtain ⟨R, HR⟩ : ∃ x, Hid (rTouch ns k r name = x) := ⟨_, Lib.hid rfl⟩
 rw [HR.out]
 have HD := Lib.hid (decls_firm.kept hd hkb)
 have HKB := Lib.hid hkb
 have HBX := Lib.hid hb0
 have HONE := Lib.hid hone
 have b0 := cellIn hb0 0 rfl
 have b1 := cellIn hb0 1 rfl
 have b2 := cellIn hb0 2 rfl
 have b3 := cellIn hb0 3 rfl
 have b4 := cellIn hb0 4 rfl
 clear hv hs hd hm hf hb0 hkb hone
 go_enter Tryz.func23, Tryz.ntmps23
 go_upto_region 1 with fail
 rw [HWB.out]
 go_wp2_with fail
 refine HBE.out.mono ?_
 intro e w2 he2
 obtain ⟨⟨xa, xb, xc⟩, q⟩ := B0
 obtain ⟨rfl, hk2⟩ := he2
 unfold wtVal
 obtain ⟨w3, HW3⟩ : ∃ x, Hid (w2.alloc (.cells #[.int .i64 (xa : Int), .int .i64 (xb : Int), .int .i64 (xc : Int)] 119 (0, 0)) = x) := ⟨_, Lib.hid rfl⟩
 have hk3 : Kept (fun _ => False) wb w3 := by rw [← HW3.out]; exact hk2.alloc _
 have HK3 := Lib.hid hk3
 have d2 := cellIn (hk3.heap id HBX.out) 2 rfl
 have HR2 : Hid (rTouch ns k r name = (q && ((pAll r.decls).getD []).any fun d => d.name == name)) := Lib.hid (by unfold rTouch; rw [HB0.out])
 clear hk2 hk3 b0 b1 b2 b3 b4
 go_upto_region 2 with fail
 rw [HW3.out]
 cases q with
 | false =>
  have hr : R = false := by rw [← HR.out, HR2.out]; rfl
  subst hr
  go_wp2_with fail
  go_ret
  exact ⟨rfl, HKB.out.trans HK3.out⟩
 | true =>
  have HRR : Hid ((((pAll r.decls).getD []).any fun d => d.name == name) = R) := Lib.hid (by rw [← HR.out, HR2.out]; rfl)
  go_wp2_with fail
  refine (rall_any w3 _ r.decls (decls_firm.kept HD.out HK3.out) hN HONE.out).mono ?_
  intro e w4 he4
  have hall : ∃ dv er x, e = .returned (.tuple #[dv, .int .i64 er]) ∧ Kept (fun _ => False) w3 w4 ∧ DeclsAt w4 dv x ∧ (pAll r.decls).getD [] = x := by
   cases hp : pAll r.decls with
   | none => rw [hp] at he4; exact ⟨_, _, [], he4.1, Kept.of_below he4.2, RowsAt.nil _ _, rfl⟩
   | some x => rw [hp] at he4; obtain ⟨dv, h1, h2, h3⟩ := he4; exact ⟨dv, _, x, h1, Kept.of_below h2, h3.1, rfl⟩
  obtain ⟨dv, er, x, rfl, hk4, hd4, hx⟩ := hall
  obtain ⟨xa', xc', rfl, hxc1, hxc2⟩ := DeclsAt.form hd4
  unfold maxLen at hxc2
  have hrr := HRR.out
  rw [hx] at hrr
  have HX := Lib.hid hrr
  have HK4 := Lib.hid (HK3.out.trans hk4)
  have HD4 := Lib.hid hd4
  clear he4 hk4 hd4 hx hrr d2
  go_wp2_with fail
  go_loopw [32] (fun c wr => ∃ i : Nat, i ≤ x.length ∧ c = .int .i64 (i : Int) ∧ Hid (Kept (fun _ => False) w4 wr) ∧ Hid (((x.drop i).any fun d => d.name == name) = R)) (fun c _ => x.length - (intOf c).toNat)
  case atStart => exact ⟨0, by omega, rfl, Lib.hid (Kept.refl _ _), HX⟩
  case round =>
   obtain ⟨i, hi, rfl, HK, HA⟩ := hrel
   obtain ⟨wr0, hwr0⟩ : ∃ x, x = wr := ⟨_, rfl⟩
   subst hwr0
   by_cases hlt : i < x.length
   ·have hy := List.getElem?_eq_getElem hlt
    have hdr := List.drop_eq_getElem_cons hlt
    generalize hgy : x[i] = y at hy hdr
    clear hgy
    obtain ⟨b, off, rfl, g0, g1, g2⟩ := DeclsAt.at (decls_firm.kept HD4.out HK.out) hy
    have ha := HA.out
    rw [hdr, List.any_cons] at ha
    have HAA := Lib.hid ha
    clear ha hy hdr
    go_upto_region 8 with fail
    obtain ⟨wv, HWV⟩ : ∃ z, Hid (wr0.alloc (.cells #[.string (str y.name), .string (str y.val), .bool y.strong] 59 (0, 0)) = z) := ⟨_, Lib.hid rfl⟩
    have v0 : wv.cell? ⟨wr0.heap.size, 0, none⟩ = some (.string (str y.name)) := by rw [← HWV.out]; exact cellIn (newIn wr0 _) 0 rfl
    have HKV : Hid (Kept (fun _ => False) w4 wv) := Lib.hid (by rw [← HWV.out]; exact HK.out.alloc _)
    rw [HWV.out]
    clear g0 g1 g2
    cases hn : (y.name == name) with
    | true =>
     have hr : R = true := by rw [← HAA.out, hn, Bool.true_or]
     subst hr
     go_wp2_with fail
     go_ret
     exact ⟨rfl, (HKB.out.trans HK4.out).trans HKV.out⟩
    | false =>
     have HA2 : Hid (((x.drop (i + 1)).any fun d => d.name == name) = R) := Lib.hid (by rw [← HAA.out, hn, Bool.false_or])
     go_wp2_with fail
     go_roundw
     case measure => simp [intOf]; omega
     case rel => exact ⟨i + 1, by omega, by go_num, HKV, HA2⟩
   ·obtain rfl : i = x.length := by omega
    have hr : R = false := by rw [← HA.out, List.drop_length]; rfl
    subst hr
    go_wp2_with fail
    go_ret
    exact ⟨rfl, (HKB.out.trans HK4.out).trans HK.out⟩
theorem SgW.copy {base : Nat} {w0 wr : World} {ao : Option Addr} {ac : Nat} {ss : List B} (h : SgW base w0 wr (.slice ao ss.length ac) ss) (hb : base ≤ wr.heap.size) {ns : List B} {ua : Option Addr} {uc n : Nat} (hu : StrsAt wr (.slice ua n uc) ns) (hn : n = ns.length) (hq : ss.length + n ≤ 4398100000000) :
  ∃ a' c' w', (Builtin.append_ #[58, 58] 58 #[.slice ao ss.length ac, .slice ua n uc]).run Tryz.prog wr = .ok (.slice a' (ss.length + n) c') w' ∧ SgW base w0 w' (.slice a' (ss.length + n) c') (ss ++ ns) ∧ Kept (fun k => (Value.slice ao ss.length ac).ownBlock = some k) wr w' := by
 obtain ⟨i0, hi0, hz0, hz1, hz2⟩ := info_parts info_str
 obtain ⟨h2, hk, hlow⟩ := h
 have hfl := flat1 ns
 obtain ⟨a', c', w', hr', ho', k', _⟩ := append_any (P := Tryz.prog) wr 58 58 base 9 i0 _ 1 16 Tryz.underlying58 hi0 hz0 hz1 hz2 rfl (by omega) ao ss.length ac _ h2 ua n uc (ns.map fun x => [Value.string (str x)]) hu (by intro r hr; obtain ⟨a, _, rfl⟩ := List.mem_map.1 hr; rfl) (by rw [hfl]; intro u hu; obtain ⟨a, _, rfl⟩ := List.mem_map.1 hu; rfl) (by unfold maxLen; omega) (by omega) hb
 refine ⟨a', c', w', hr', ⟨?_, hk.trans' k' (fun i hi hx => ?_), hlow⟩, k'⟩
 ·rw [List.length_append, List.map_append, List.flatten_append, ← hn]
  exact ho'
 ·have := (h2.lt i hx).1; omega
theorem SgW.empty {wr wa : World} (h : wr.alloc (.cells #[] 9 (0, 0)) = wa) : SgW wr.heap.size wr wa (.slice (some ⟨wr.heap.size, 0, none⟩) 0 0) [] := by
 subst h
 refine ⟨⟨by simp, .inr ⟨wr.heap.size, 0, #[], rfl, Nat.le_refl _, newIn wr _, Nat.le_refl _, by unfold maxLen; omega, by simp, by simp⟩⟩, (Kept.refl _ wr).alloc _, Nat.le_refl _⟩
theorem SsW.start {w wa : World} (h : w.alloc (.cells #[.slice none 0 0] 58 (0, 0)) = wa) : SsW w.heap.size w wa (.slice (some ⟨w.heap.size, 0, none⟩) 1 1) [[]] [.slice none 0 0] := by
 subst h
 refine ⟨⟨rfl, ⟨by simp [setCells], .inr ⟨w.heap.size, 1, #[.slice none 0 0], rfl, Nat.le_refl _, newIn w _, Nat.le_refl _, by simp [maxLen], by simp, by simp [setCells]⟩⟩, fun i x u hx hu => ?_⟩, (Kept.refl _ w).alloc _, Nat.le_refl _⟩
 match i with
 | 0 =>
  cases hx; cases hu
  exact ⟨RowsAt.nil _ _, fun k hk => by cases hk⟩
 | i + 1 => simp at hx
theorem SsW.form {base : Nat} {w0 wr : World} {v : Value} {xs : List (List B)} {vs : List Value} (h : SsW base w0 wr v xs vs) : ∃ ao ac, v = .slice ao xs.length ac := h.nest.form
set_option maxRecDepth 100000 in
set_option maxHeartbeats 6400000 in
theorem sets_any (rules : List PRule) (hmost : rules.length ≤ 60) (w : World) (rv : Value) (hr : RulesAt w rv rules) :
  Calls Tryz.prog 26 #[rv] w fun e w' => ∃ v X, e = .returned v ∧ Kept (fun _ => False) w w' ∧ SetsIn w' X v (gsets (mnames rules)) := by
 obtain ⟨ra, rcap, rfl, hrc1, hrc2⟩ := NestAt.form hr
 unfold maxLen at hrc2
 have HRS := Lib.hid hr
 clear hr
 go_enter Tryz.func26, Tryz.ntmps26
 go_upto_block 0 with fail
 go_cut [3] (fun v wx => Hid (SgW w.heap.size w wx v (mnames rules)))
 case first =>
  go_wp2_with fail
  go_loopw [3, 13] (fun v c wr => ∃ i : Nat, i ≤ rules.length ∧ c = .int .i64 (i : Int) ∧ Hid (SgW w.heap.size w wr v (mnames (rules.take i)))) (fun _ c _ => rules.length - (intOf c).toNat)
  case atStart => exact ⟨0, by omega, rfl, Lib.hid (SgW.start w)⟩
  case round =>
   obtain ⟨i, hi, rfl, HS⟩ := hrel
   obtain ⟨wr0, hwr0⟩ : ∃ x, x = wr := ⟨_, rfl⟩
   subst hwr0
   have hn8 := mnames_len (rules.take i)
   obtain ⟨ns, HNS⟩ : ∃ x, Hid (mnames (rules.take i) = x) := ⟨_, Lib.hid rfl⟩
   rw [HNS.out] at HS hn8
   obtain ⟨ao, ac, rfl⟩ := HS.out.form
   by_cases hlt : i < rules.length
   ·have hx := List.getElem?_eq_getElem hlt
    generalize hgx : rules[i] = r at hx
    clear hgx
    have hnx : Hid (mnames (rules.take (i + 1)) = mname1 ns r) := Lib.hid (by rw [mnames_take hx, HNS.out])
    obtain ⟨rb, ro, u, rfl, hcs, sv, dv, rfl, hss, hds⟩ := NestAt.at (rules_firm.kept HRS.out HS.out.kept) hx
    obtain ⟨sa, sc, rfl, hsc1, hsc2⟩ := NestAt.form hss
    obtain ⟨da, dc, rfl, hdc1, hdc2⟩ := DeclsAt.form hds
    have r0 : wr0.cell? ⟨rb, ro + i * 5, none⟩ = some (.string (str r.media)) := hcs 0 _ rfl
    have r1 : wr0.cell? ⟨rb, ro + i * 5 + 1, none⟩ = some (.slice sa r.sels.length sc) := hcs 1 _ rfl
    have r2 : wr0.cell? ⟨rb, ro + i * 5 + 2, none⟩ = some (.slice da r.decls.length dc) := hcs 2 _ rfl
    have r3 : wr0.cell? ⟨rb, ro + i * 5 + 3, none⟩ = some (.int .i64 r.lo) := hcs 3 _ rfl
    have r4 : wr0.cell? ⟨rb, ro + i * 5 + 4, none⟩ = some (.int .i64 r.hi) := hcs 4 _ rfl
    obtain ⟨wz, HWZ⟩ : ∃ z, Hid (wr0.alloc (.cells #[.string (str r.media), .slice sa r.sels.length sc, .slice da r.decls.length dc, .int .i64 r.lo, .int .i64 r.hi] 42 (0, 0)) = z) := ⟨_, Lib.hid rfl⟩
    obtain ⟨zk, HZK⟩ : ∃ z, Hid (wr0.heap.size = z) := ⟨_, Lib.hid rfl⟩
    have hzb : wz.heap[zk]? = some (.cells #[.string (str r.media), .slice sa r.sels.length sc, .slice da r.decls.length dc, .int .i64 r.lo, .int .i64 r.hi] 42 (0, 0)) := by rw [← HWZ.out, ← HZK.out]; exact newIn wr0 _
    have HSZ : Hid (SgW w.heap.size w wz (.slice ao ns.length ac) ns) := Lib.hid (HS.out.still (by rw [← HWZ.out]; exact (Kept.refl _ wr0).alloc _))
    have hwz : w.heap.size ≤ wz.heap.size := HSZ.out.kept.size
    clear hcs hss hds hx
    go_upto_region 5 with fail
    rw [HWZ.out, HZK.out]
    clear r0 r1 r2 r3 r4
    have z0 := cellIn hzb 0 rfl
    clear hzb
    have HIN := Lib.hid (rin_any r.media ns wz _ HSZ.out.reads)
    cases hme : r.media.isEmpty with
    | true =>
     have hn2 : Hid (mnames (rules.take (i + 1)) = ns) := Lib.hid (by rw [hnx.out]; unfold mname1; rw [hme]; rfl)
     go_wp2_with fail
     go_roundw
     case measure => simp [intOf]; omega
     case rel => exact ⟨i + 1, by omega, by go_num, Lib.hid (by rw [hn2.out]; exact HSZ.out)⟩
    | false =>
     obtain ⟨cb, HCB⟩ : ∃ x, Hid (ns.contains r.media = x) := ⟨_, Lib.hid rfl⟩
     have hin := HIN.out
     rw [HCB.out] at hin
     have HIN2 := Lib.hid hin
     clear hin
     go_wp2_with fail
     refine HIN2.out.mono ?_
     rintro e w2 ⟨rfl, rfl⟩
     cases cb with
     | true =>
      have hn2 : Hid (mnames (rules.take (i + 1)) = ns) := Lib.hid (by rw [hnx.out]; unfold mname1; rw [hme, HCB.out]; rfl)
      go_wp2_with fail
      go_roundw
      case measure => simp [intOf]; omega
      case rel => exact ⟨i + 1, by omega, by go_num, Lib.hid (by rw [hn2.out]; exact HSZ.out)⟩
     | false =>
      by_cases h8 : ns.length < 8
      ·have h8I : (ns.length : Int) < 8 := by omega
       have hn2 : Hid (mnames (rules.take (i + 1)) = ns ++ [r.media]) := Lib.hid (by rw [hnx.out]; unfold mname1; rw [hme, HCB.out, if_pos (by simp [h8])])
       obtain ⟨a', c', w', hrun, hsg, hkp⟩ := HSZ.out.push hwz [r.media] 1 rfl (by omega) #[.string (str r.media)] rfl (by omega)
       have HRUN := Lib.hid hrun
       have HSG := Lib.hid hsg
       clear hrun hsg hkp
       go_wp2_with (at_builtin; refine wpList_append_eq (by rfl) _ _ _ rfl _ _ _ rfl rfl _ HRUN.out ?_)
       go_roundw
       case measure => simp [intOf]; omega
       case rel => exact ⟨i + 1, by omega, by go_num, Lib.hid (by rw [hn2.out]; exact HSG.out)⟩
      ·have h8I : ¬ (ns.length : Int) < 8 := by omega
       have hn2 : Hid (mnames (rules.take (i + 1)) = ns) := Lib.hid (by rw [hnx.out]; unfold mname1; rw [hme, HCB.out, if_neg (by simp [h8])])
       go_wp2_with fail
       go_roundw
       case measure => simp [intOf]; omega
       case rel => exact ⟨i + 1, by omega, by go_num, Lib.hid (by rw [hn2.out]; exact HSZ.out)⟩
   ·obtain rfl : i = rules.length := by omega
    have hfin : Hid (SgW w.heap.size w wr0 (.slice ao ns.length ac) (mnames rules)) := Lib.hid (by
     have := HNS.out
     rw [List.take_length] at this
     rw [this]; exact HS.out)
    go_wp2_with fail
    go_meet
    case rel => exact hfin
 case rest =>
  have HS := Lib.hid hcut.out
  obtain ⟨w1, hw1⟩ : ∃ x, x = wc := ⟨_, rfl⟩
  subst hw1
  clear hcut
  have hn8 := mnames_len rules
  obtain ⟨ns, HNS⟩ : ∃ x, Hid (mnames rules = x) := ⟨_, Lib.hid rfl⟩
  rw [HNS.out] at HS hn8
  obtain ⟨ao, ac, rfl⟩ := HS.out.form
  have HKW : Hid (Kept (fun _ => False) w w1) := Lib.hid HS.out.kept
  have HNR : Hid (StrsAt w1 (.slice ao ns.length ac) ns) := Lib.hid HS.out.reads
  obtain ⟨w2, HW2⟩ : ∃ z, Hid (w1.alloc (.cells #[.slice none 0 0] 58 (0, 0)) = z) := ⟨_, Lib.hid rfl⟩
  obtain ⟨bb, HBB⟩ : ∃ z, Hid (w1.heap.size = z) := ⟨_, Lib.hid rfl⟩
  have HSS : Hid (SsW bb w1 w2 (.slice (some ⟨bb, 0, none⟩) 1 1) [[]] [.slice none 0 0]) := Lib.hid (by rw [← HBB.out]; exact SsW.start HW2.out)
  go_upto_region 9 with fail
  rw [HW2.out, HBB.out]
  go_upto_block 2 with fail
  go_cut [6] (fun v wx => ∃ vs, Hid (SsW bb w1 wx v (gsets ns) vs))
  case rest =>
   obtain ⟨vs, HF⟩ := hcut
   go_wp2_with fail
   go_ret
   exact ⟨_, _, rfl, HKW.out.trans HF.out.kept, by rw [HNS.out]; exact HF.out.nest.done setCells_len strsIn_lasts⟩
  case first =>
   go_wp2_with fail
   go_loopw [6, 41] (fun v c wr => ∃ (i : Nat) (vs : List Value), i ≤ ns.length ∧ c = .int .i64 (i : Int) ∧ Hid (SsW bb w1 wr v (gsets (ns.take i)) vs)) (fun _ c _ => ns.length - (intOf c).toNat)
   case atStart => exact ⟨0, _, by omega, rfl, HSS⟩
   case round =>
    obtain ⟨i, vs, hi, rfl, HO⟩ := hrel
    obtain ⟨wr0, hwr0⟩ : ∃ x, x = wr := ⟨_, rfl⟩
    subst hwr0
    by_cases hlt : i < ns.length
    ·have hx := List.getElem?_eq_getElem hlt
     generalize hgx : ns[i] = nm at hx
     clear hgx
     have hnx : Hid (gsets (ns.take (i + 1)) = gset1 (gsets (ns.take i)) nm) := Lib.hid (gsets_take hx)
     have hlen : (gsets (ns.take i)).length ≤ 256 := gsets_le (by rw [List.length_take]; omega)
     have heach : ∀ s ∈ gsets (ns.take i), s.length ≤ 8 := fun s hs => by
      have := gsets_each hs
      rw [List.length_take] at this; omega
     obtain ⟨out, HOUT⟩ : ∃ x, Hid (gsets (ns.take i) = x) := ⟨_, Lib.hid rfl⟩
     rw [HOUT.out] at HO hlen hnx heach
     have HEACH := Lib.hid heach
     obtain ⟨oa, oc, rfl⟩ := HO.out.form
     obtain ⟨nb, no, rfl, g0⟩ := StrsAt.at (strs_firm.kept HNR.out HO.out.kept) hx
     have hown0 := HO.out.nest.own
     rw [zip_sets out vs HO.out.nest.len] at hown0
     have HOW := Lib.hid hown0
     have HVL : Hid (vs.length = out.length) := Lib.hid HO.out.nest.len
     clear hx hown0 heach
     go_wp2_with fail
     clear g0
     go_loopw [6, 47] (fun v c wx => ∃ (j : Nat) (us : List Value), j ≤ out.length ∧ c = .int .i64 (j : Int) ∧ Hid (SsW bb w1 wx v (gpart out nm j) (vs ++ us)) ∧ Hid (wx.ownsRow bb 58 1 (.slice oa out.length oc) out.length vs)) (fun _ c _ => out.length - (intOf c).toNat)
     case atStart => exact ⟨0, [], by omega, rfl, Lib.hid (by rw [gpart_zero, List.append_nil]; exact HO.out), HOW⟩
     case round =>
      obtain ⟨j, us, hj, rfl, HI, HE⟩ := hrel
      obtain ⟨wx0, hwx0⟩ : ∃ x, x = wr := ⟨_, rfl⟩
      subst hwx0
      obtain ⟨ia, ic, rfl⟩ := HI.out.form
      have hpl := gpart_len out nm hj
      by_cases hjl : j < out.length
      ·have hy := List.getElem?_eq_getElem hjl
       generalize hgy : out[j] = s at hy
       clear hgy
       have hs8 : s.length ≤ 8 := HEACH.out s (List.mem_of_getElem? hy)
       have hnx2 : Hid (gpart out nm (j + 1) = gpart out nm j ++ [s ++ [nm]]) := Lib.hid (gpart_succ hy)
       obtain ⟨g, u, hge, hgc, hgu⟩ := sets_old (xs := out) (ys := (out.take j).map fun s => s ++ [nm]) HI.out.nest HVL.out HE.out hy
       subst hge
       obtain ⟨ua, uc, rfl, huc1, huc2⟩ := StrsAt.form hgu.1
       unfold maxLen at huc2
       have HU : Hid (StrsAt wx0 (.slice ua s.length uc) s) := Lib.hid hgu.1
       have hkI := HI.out.kept
       have hbx : bb ≤ wx0.heap.size := by rw [← HBB.out]; exact hkI.size
       obtain ⟨wA, HWA⟩ : ∃ z, Hid (wx0.alloc (.cells #[] 9 (0, 0)) = z) := ⟨_, Lib.hid rfl⟩
       have hsgA := SgW.empty HWA.out
       have hkA : Kept (fun _ => False) wx0 wA := hsgA.kept
       obtain ⟨aB, cB, wB, hrB, hsgB, hkB⟩ := SgW.copy (ss := []) (n := s.length) hsgA hkA.size (strs_firm.kept HU.out hkA) rfl (by rw [List.length_nil]; omega)
       simp only [List.length_nil, Nat.zero_add, List.nil_append] at hrB hsgB
       obtain ⟨aC, cC, wC, hrC, hsgC, hkC⟩ := hsgB.push hsgB.kept.size [nm] 1 rfl (by omega) #[.string (str nm)] rfl (by omega)
       have hgt : ∀ k, (Value.slice aC (s.length + 1) cC).ownBlock = some k → wx0.heap.size ≤ k ∧ k < wC.heap.size := fun k hk => by
        have := hsgC.own.lt k hk; omega
       have hSS := HI.out.still hsgC.kept
       have hEE := owns_kept HE.out hsgC.kept (fun _ _ => id)
       have hil : ∀ k, (Value.slice ia (gpart out nm j).length ic).ownBlock = some k → k < wx0.heap.size := fun k hk => (HI.out.nest.own.lt k hk).2
       obtain ⟨aD, cD, wD, hrD, hsD, hoD⟩ := hSS.push 60 Tryz.underlying60 (by have := hsgC.kept.size; omega) (x := s ++ [nm]) (u := .slice aC (s.length + 1) cC)
        ⟨hsgC.reads, fun k hk => ⟨fun hx => by
         have h1 := hgt k hk
         rcases hx with hx | hx
         ·omega
         ·have := hil k hx; omega, (hgt k hk).2⟩⟩ rfl (by omega) hEE (by omega) (by rw [HBB.out]; exact Nat.le_refl _)
       have HRB := Lib.hid hrB
       have HRC := Lib.hid hrC
       have HRD := Lib.hid hrD
       have HSD := Lib.hid hsD
       have HOD := Lib.hid hoD
       clear hrB hrC hrD hsD hoD hsgA hsgB hsgC hkA hkB hkC hgt hSS hEE hil hgu hkI
       go_upto_region 15 with fail
       clear hgc
       rw [hpl] at HRD HSD ⊢
       go_wp2_with (at_builtin; first
        | (refine wpList_append_eq (by rfl) _ _ _ rfl _ _ _ rfl rfl _ HRD.out ?_)
        | (refine wpList_append_eq (by rfl) _ _ _ rfl _ _ _ rfl rfl _ HRC.out ?_)
        | (rw [HWA.out]; refine wpList_append_eq (by rfl) _ _ _ rfl _ _ _ rfl rfl _ HRB.out ?_))
       go_roundw
       case measure => simp [intOf]; omega
       case rel => exact ⟨j + 1, us ++ [.slice aC (s.length + 1) cC], by omega, by go_num, Lib.hid (by rw [hnx2.out, ← List.append_assoc]; exact HSD.out), HOD⟩
      ·obtain rfl : j = out.length := by omega
       have hfin : Hid (SsW bb w1 wx0 (.slice ia (gpart out nm out.length).length ic) (gsets (ns.take (i + 1))) (vs ++ us)) := Lib.hid (by rw [hnx.out, ← gpart_end]; exact HI.out)
       go_wp2_with fail
       go_roundw
       case measure => simp [intOf]; omega
       case rel => exact ⟨i + 1, _, by omega, by go_num, hfin⟩
    ·obtain rfl : i = ns.length := by omega
     have hfin : Hid (SsW bb w1 wr0 _ (gsets ns) vs) := Lib.hid (by
      have := HO.out
      rw [List.take_length] at this
      exact this)
     go_wp2_with fail
     go_meet
     case rel => exact ⟨vs, hfin⟩
end Go.Proofs.YtplbdlgmjehckacGreatDoor

