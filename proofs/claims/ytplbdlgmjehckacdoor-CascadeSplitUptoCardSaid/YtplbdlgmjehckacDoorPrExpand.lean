/-
  props.Expand.
-/
import Derived.Test.YtplbdlgmjehckacDoorPrSmall
import Derived.Test.YtplbdlgmjehckacDoorSpl
import Derived.Test.YtplbdlgmjehckacDoorMaps
import Derived.Test.YtplbdlgmjehckacDoorShCells
import Derived.Deep.AppendLies
import Derived.Deep.LoopGhost
import Derived.Deep.RegionHeld3
namespace Go.Proofs.YtplbdlgmjehckacDoor
open Go.RowKit
set_option linter.unusedVariables false
set_option linter.unusedSimpArgs false

def declV (d : PDecl) : Value := .agg #[.string (str d.name), .string (str d.val), .bool d.strong]
@[reducible] def quad (a b c d : Int) : Value := .agg #[.int .i64 a, .int .i64 b, .int .i64 c, .int .i64 d]
@[reducible] def exE1 : MapEntry := ⟨.int .i64 1, quad 0 0 0 0, 0⟩
@[reducible] def exE2 : MapEntry := ⟨.int .i64 2, quad 0 1 0 1, 1⟩
@[reducible] def exE3 : MapEntry := ⟨.int .i64 3, quad 0 1 2 1, 2⟩
@[reducible] def exE4 : MapEntry := ⟨.int .i64 4, quad 0 1 2 3, 3⟩

/-- what the map of places says of n words -/
def exWhich : Nat → Option (Int × Int × Int × Int)
  | 1 => some (0, 0, 0, 0)
  | 2 => some (0, 1, 0, 1)
  | 3 => some (0, 1, 2, 1)
  | 4 => some (0, 1, 2, 3)
  | _ => none
theorem ex_look (w2 : World) (n : Nat) : (Instr.lookup 125 (.map (some w2.heap.size)) (.int .i64 (n : Int)) true).run Tryd.prog (w2.alloc (.map #[exE1, exE2, exE3, exE4] 4)) =
    .ok (.tuple #[match exWhich n with | some (a, b, c, d) => quad a b c d | none => quad 0 0 0 0, .bool (exWhich n).isSome]) (w2.alloc (.map #[exE1, exE2, exE3, exE4] 4)) := by
  have hb := newIn w2 (.map #[exE1, exE2, exE3, exE4] 4)
  match n with
  | 0 => exact run_look_miss Tryd.underlying125 Tryd.underlying3 hb (by rfl) (by rfl) (by kernel_rfl) true
  | 1 => exact run_look_hit (i := 0) Tryd.underlying125 Tryd.underlying3 hb (by rfl) (by rfl) true
  | 2 => exact run_look_hit (i := 1) Tryd.underlying125 Tryd.underlying3 hb (by rfl) (by rfl) true
  | 3 => exact run_look_hit (i := 2) Tryd.underlying125 Tryd.underlying3 hb (by rfl) (by rfl) true
  | 4 => exact run_look_hit (i := 3) Tryd.underlying125 Tryd.underlying3 hb (by rfl) (by rfl) true
  | n + 5 =>
    refine run_look_miss Tryd.underlying125 Tryd.underlying3 hb (by rfl) ?_ (by kernel_rfl) true
    have h1 : (((n + 5 : Nat) : Int) == 1) = false := by simp; omega
    have h2 : (((n + 5 : Nat) : Int) == 2) = false := by simp; omega
    have h3 : (((n + 5 : Nat) : Int) == 3) = false := by simp; omega
    have h4 : (((n + 5 : Nat) : Int) == 4) = false := by simp; omega
    simp only [Instr.findNow, Instr.sameNow, if_true, h1, h2, h3, h4]
theorem ex_ins1 (w2 : World) : (Instr.mapUpdate 125 (.map (some w2.heap.size)) (.int .i64 1) (quad 0 0 0 0)).run Tryd.prog (w2.alloc (.map #[] 0)) = .ok () (w2.alloc (.map #[exE1] 1)) :=
  run_insert_top Tryd.underlying125 Tryd.underlying3 w2 (by rfl) (by rfl)
theorem ex_ins2 (w2 : World) : (Instr.mapUpdate 125 (.map (some w2.heap.size)) (.int .i64 2) (quad 0 1 0 1)).run Tryd.prog (w2.alloc (.map #[exE1] 1)) = .ok () (w2.alloc (.map #[exE1, exE2] 2)) :=
  run_insert_top Tryd.underlying125 Tryd.underlying3 w2 (by rfl) (by rfl)
theorem ex_ins3 (w2 : World) : (Instr.mapUpdate 125 (.map (some w2.heap.size)) (.int .i64 3) (quad 0 1 2 1)).run Tryd.prog (w2.alloc (.map #[exE1, exE2] 2)) = .ok () (w2.alloc (.map #[exE1, exE2, exE3] 3)) :=
  run_insert_top Tryd.underlying125 Tryd.underlying3 w2 (by rfl) (by rfl)
theorem ex_ins4 (w2 : World) : (Instr.mapUpdate 125 (.map (some w2.heap.size)) (.int .i64 4) (quad 0 1 2 3)).run Tryd.prog (w2.alloc (.map #[exE1, exE2, exE3] 3)) = .ok () (w2.alloc (.map #[exE1, exE2, exE3, exE4] 4)) :=
  run_insert_top Tryd.underlying125 Tryd.underlying3 w2 (by rfl) (by rfl)

def sideName : Nat → B
  | 0 => edgeTop
  | 1 => edgeRight
  | 2 => edgeBottom
  | _ => edgeLeft
theorem side_at0 (w : World) : (Instr.index 126 sidesV (.int .i64 0)).run Tryd.prog w = .ok (.string (str edgeTop)) w := by kernel_rfl
theorem side_at1 (w : World) : (Instr.index 126 sidesV (.int .i64 1)).run Tryd.prog w = .ok (.string (str edgeRight)) w := by kernel_rfl
theorem side_at2 (w : World) : (Instr.index 126 sidesV (.int .i64 2)).run Tryd.prog w = .ok (.string (str edgeBottom)) w := by kernel_rfl
theorem side_at3 (w : World) : (Instr.index 126 sidesV (.int .i64 3)).run Tryd.prog w = .ok (.string (str edgeLeft)) w := by kernel_rfl
theorem side_at (k : Nat) (hk : k < 4) (w : World) : (Instr.index 126 sidesV (.int .i64 (k : Int))).run Tryd.prog w = .ok (.string (str (sideName k))) w := by
  match k, hk with
  | 0, _ => exact side_at0 w
  | 1, _ => exact side_at1 w
  | 2, _ => exact side_at2 w
  | 3, _ => exact side_at3 w
theorem four_at {la lb lc ld : B} {st : Bool} {L : List B} {a b c d : Nat} (ha : L[a]? = some la) (hb : L[b]? = some lb) (hc : L[c]? = some lc) (hd : L[d]? = some ld) (k : Nat) (hk : k < 4) :
    ∃ (j : Nat) (x : B), (#[Value.int .i64 a, .int .i64 b, .int .i64 c, .int .i64 d])[k]? = some (.int .i64 (j : Int)) ∧ L[j]? = some x ∧ (edges la lb lc ld st)[k]? = some ⟨sideName k, x, st⟩ := by
  match k, hk with
  | 0, _ => exact ⟨a, la, rfl, ha, rfl⟩
  | 1, _ => exact ⟨b, lb, rfl, hb, rfl⟩
  | 2, _ => exact ⟨c, lc, rfl, hc, rfl⟩
  | 3, _ => exact ⟨d, ld, rfl, hd, rfl⟩
structure ELoop (w3 wr : World) (base : Nat) (l : Value) (X : List PDecl) (k : Nat) : Prop where
  own : wr.ownsRow base 55 3 l k ((X.take k).map declCells).flatten
  kept : Kept (fun _ => False) w3 wr
theorem ELoop.form {w3 wr : World} {base : Nat} {l : Value} {X : List PDecl} {k : Nat} (h : ELoop w3 wr base l X k) : ∃ vo vc, l = .slice vo k vc := by
  rcases h.own.2 with ⟨h, hn⟩ | ⟨g, cap, cur, h, _⟩
  · exact ⟨none, 0, by rw [h, hn]⟩
  · exact ⟨_, cap, h⟩
theorem decl_one (d : PDecl) : ∀ u ∈ declCells d, u.oneCell' = true := by
  intro u hu
  simp only [declCells, List.mem_cons, List.not_mem_nil, or_false] at hu
  rcases hu with rfl | rfl | rfl <;> rfl

set_option maxRecDepth 100000 in
set_option maxHeartbeats 1600000 in
theorem expand_edge (nm val : B) (L : List B) (strong : Bool) (a b c d : Nat) (la lb lc ld : B) (w : World) (m : Int) (hm : w.cell? ⟨0, 0, none⟩ = some (.int .i64 m)) (hl : val.length ≤ 1048576) (hn : nm = edgeName) (hs : splitB val = L) (hw : exWhich L.length = some ((a : Int), (b : Int), (c : Int), (d : Int)))
    (ha : L[a]? = some la) (hb : L[b]? = some lb) (hc : L[c]? = some lc) (hd : L[d]? = some ld) :
  Calls Tryd.prog 34 #[.agg #[.string (str nm), .string (str val), .bool strong]] w fun e w' => ∃ v, e = .returned (.tuple #[v, .int .i64 0]) ∧ Below w.heap.size w w' ∧ DeclsIn w' (fun k => k < w.heap.size) v (edges la lb lc ld strong) := by
  have g : (nm == [101, 100, 103, 101]) = true := by simp [hn, edgeName]
  have HS := Lib.hid hs
  have HW := Lib.hid hw
  have hLl : L.length ≤ 1048577 := by have := splitB_len val; rw [hs] at this; omega
  obtain ⟨i0, hi0, hz0, hz1, hz2⟩ := info_parts info_decl
  obtain ⟨X, HX⟩ : ∃ X, Hid (edges la lb lc ld strong = X) := ⟨_, rfl⟩
  have HF := Lib.hid (four_at (st := strong) ha hb hc hd)
  rw [HX.out] at HF ⊢
  clear hn hs hw ha hb hc hd
  go_enter Tryd.func34, Tryd.ntmps34
  go_wp2_with fail
  refine (split_any val m _ (by omega) (by rw [World.cell?_alloc_old _ _ _ (by have := World.block_lt_of_cell? _ _ hm; dsimp at this ⊢; omega)]; exact hm)).mono ?_
  rintro e w2 ⟨rfl, hw2⟩
  rw [HS.out] at hw2 ⊢
  have hsz : w2.heap.size = w.heap.size + 1 + 1 := by rw [hw2]; simp
  have hdb := newIn w (.cells #[.string (str nm), .string (str val), .bool strong] 55 (0, 0))
  have hL := newIn (w.alloc (.cells #[.string (str nm), .string (str val), .bool strong] 55 (0, 0))) (.cells (L.map fun x => Value.string (str x)).toArray 9 (0, 0))
  have hd2 := oldIn hdb (.cells (L.map fun x => Value.string (str x)).toArray 9 (0, 0))
  have hb2 := ((Below.refl w.heap.size w).alloc (Nat.le_refl _) (.cells #[.string (str nm), .string (str val), .bool strong] 55 (0, 0))).alloc (by simp) (.cells (L.map fun x => Value.string (str x)).toArray 9 (0, 0))
  rw [← hw2] at hL hd2 hb2
  have eL : (w.alloc (.cells #[.string (str nm), .string (str val), .bool strong] 55 (0, 0))).heap.size = w.heap.size + 1 := by simp
  rw [eL] at hL
  have HB2 := Lib.hid hb2
  have HSZ := Lib.hid hsz
  have HD2 := Lib.hid hd2
  have HL2 := Lib.hid hL
  clear hw2 hdb hsz hb2 eL hd2 hL
  go_upto_region 4 with fail
  have e0 := run_made (P := Tryd.prog) w2 125
  have e1 := ex_ins1 w2
  have e2 := ex_ins2 w2
  have e3 := ex_ins3 w2
  have e4 := ex_ins4 w2
  have e5 := ex_look w2 L.length
  rw [HW.out] at e5
  simp only [Option.isSome_some] at e5
  go_wp2_with fail
  obtain ⟨w3, HW3⟩ : ∃ x, Hid ((w2.alloc (.map #[exE1, exE2, exE3, exE4] 4)).alloc (.cells #[.int .i64 a, .int .i64 b, .int .i64 c, .int .i64 d] 123 (0, 0)) = x) := ⟨_, rfl⟩
  rw [HW3.out]
  clear e0 e1 e2 e3 e4 e5
  refine (sides_any w3).mono ?_
  rintro e w4 ⟨rfl, hb4⟩
  have hq : w3.heap[w2.heap.size + 1]? = some (.cells #[.int .i64 a, .int .i64 b, .int .i64 c, .int .i64 d] 123 (0, 0)) := by
    rw [← HW3.out]
    have := newIn (w2.alloc (.map #[exE1, exE2, exE3, exE4] 4)) (.cells #[.int .i64 a, .int .i64 b, .int .i64 c, .int .i64 d] 123 (0, 0))
    simpa using this
  have k23 : Kept (fun _ => False) w2 w3 := by rw [← HW3.out]; exact ((Kept.refl _ w2).alloc _).alloc _
  have k34 : Kept (fun _ => False) w3 w4 := Kept.of_below hb4
  have hq4 := k34.heap id hq
  have k24 := k23.trans k34
  have HD4 := Lib.hid (k24.heap id HD2.out)
  have HL4 := Lib.hid (k24.heap id HL2.out)
  have HQ4 := Lib.hid hq4
  have HB4 := Lib.hid ((HB2.out).trans (k24.below.mono HB2.out.size))
  have HK := Lib.hid k24
  clear hb4 hq k23 k34 hq4 k24
  obtain ⟨base, HBASE⟩ : ∃ x, Hid (w4.heap.size = x) := ⟨_, rfl⟩
  go_upto_block 0 with fail
  go_cut [7] (fun l wx => ELoop w4 wx base l X 4)
  case first =>
    go_wp2_with fail
    go_loopw [7, 33] (fun l i wr => ∃ k : Nat, k ≤ 4 ∧ i = .int .i64 k ∧ ELoop w4 wr base l X k) (fun _ i _ => 4 - (intOf i).toNat)
    case atStart => exact ⟨0, by omega, rfl, World.ownsRow_nil _ _ _ _, Kept.refl _ _⟩
    case round =>
      obtain ⟨i, hi, rfl, hL⟩ := hrel
      obtain ⟨lo, lc', rfl⟩ := hL.form
      have HL := Lib.hid hL
      have how := hL.own
      clear hL
      by_cases hlt : i < 4
      · obtain ⟨j, x, hj, hx, hX⟩ := HF.out i hlt
        have d2 : wr.cell? ⟨w.heap.size, 2, none⟩ = some (.bool strong) := cellIn (HL.out.kept.heap id HD4.out) 2 rfl
        have q0 : wr.cell? ⟨w2.heap.size + 1, i, none⟩ = some (.int .i64 j) := cellIn (HL.out.kept.heap id HQ4.out) i hj
        have l0 : wr.cell? ⟨w.heap.size + 1, j, none⟩ = some (.string (str x)) := cellIn (HL.out.kept.heap id HL4.out) j (by simp [hx])
        have hjl : j < L.length := (List.getElem?_eq_some_iff.1 hx).1
        have hix := side_at i hlt wr
        have hsz4 : base ≤ wr.heap.size := by have := HL.out.kept.size; have := HBASE.out; omega
        have HX1 := Lib.hid hX
        have s1 : w2.heap.size + 1 < wr.heap.size := by have := ltIn HQ4.out; have := HL.out.kept.size; omega
        have s2 : w.heap.size + 1 < wr.heap.size := by have := ltIn HL4.out; have := HL.out.kept.size; omega
        have n1 : Hid (some (w2.heap.size + 1) ≠ (Value.slice lo i lc').ownBlock) := Lib.hid fun hx => by
          have := (how.lt _ hx.symm).1; have := ltIn HQ4.out; have := HBASE.out; omega
        have n2 : Hid (some (w.heap.size + 1) ≠ (Value.slice lo i lc').ownBlock) := Lib.hid fun hx => by
          have := (how.lt _ hx.symm).1; have := ltIn HL4.out; have := HBASE.out; omega
        have n3 : Hid (some w.heap.size ≠ (Value.slice lo i lc').ownBlock) := Lib.hid fun hx => by
          have := (how.lt _ hx.symm).1; have := ltIn HL4.out; have := HBASE.out; omega
        obtain ⟨sn, HSN⟩ : ∃ y, Hid (sideName i = y) := ⟨_, rfl⟩
        rw [HSN.out] at hix
        clear hj hx hX
        go_upto_region 11 with fail
        go_region_held3 (fun w' => w'.cell? ⟨w2.heap.size + 1, i, none⟩ = some (.int .i64 j) ∧ w'.cell? ⟨w.heap.size + 1, j, none⟩ = some (.string (str x)) ∧ w'.cell? ⟨w.heap.size, 2, none⟩ = some (.bool strong)) (first | go_keep | (go_split_ands; exact ⟨by rw [hgrow.cell_far _ (by simp; omega) n1.out]; assumption, by rw [hgrow.cell_far _ (by simp; omega) n2.out]; assumption, by rw [hgrow.cell_far _ (by simp; omega) n3.out]; assumption⟩))
          ((refine step_append_lies _ (by rfl) _ _ _ (by rfl) base 55 i0 _ 3 40 Tryd.underlying27 hi0 hz0 hz1 hz2 rfl (by omega) _ i _ (by rfl) (how.alloc _) ⟨wr.heap.size, 0, none⟩ 1 1 (declCells ⟨sn, x, strong⟩) (by rfl) (by rfl) (World.news_of_block (cs := (declCells ⟨sn, x, strong⟩).toArray) (t := 55) (fr := (0, 0)) (heap_alloc_new wr _)) (decl_one _) (by omega) (by unfold maxLen; omega) (by omega) (by simp; omega) (wr.heap.size + 1) (by simp) ?_; intro gg cap w5 hown5 hgrow hat hlt5))
        go_wp2_with fail
        go_roundw
        case measure => simp [intOf]; omega
        case rel =>
          refine ⟨i + 1, by omega, by go_num, ?_, ((HL.out.kept.alloc _).drew).grown hgrow (fun k hk => .inr (by have := (HL.out.own.lt k hk).1; have := HBASE.out; omega))⟩
          rw [List.take_add_one, HX1.out, HSN.out, Option.toList_some, List.map_append, List.flatten_append, List.map_singleton, List.flatten_singleton]
          exact hown5
      · obtain rfl : i = 4 := by omega
        go_wp2_with fail
        go_meet
        case rel => exact HL.out
  case rest =>
    have HE := Lib.hid hcut
    obtain ⟨lo, lc', rfl⟩ := hcut.form
    clear hcut
    go_wp2_with fail
    refine bodyPost_ret (v := .tuple #[.slice lo 4 lc', .int .i64 0]) (by simp [results, Tryd.results34, go_sem]) rfl ?_
    refine ⟨_, rfl, HB4.out.trans (HE.out.kept.below.mono HB4.out.size), ?_⟩
    have hX4 : X.length = 4 := by rw [← HX.out]; rfl
    have how := HE.out.own
    rw [List.take_of_length_le (by omega)] at how
    have hbs := HB4.out.size
    exact ⟨rowsAt_of_owns decl_rows (by simp [hX4]) how, fun k hk => ⟨fun hx => by have := (how.lt k hk).1; have := HBASE.out; omega, (how.lt k hk).2⟩⟩

set_option maxRecDepth 100000 in
set_option maxHeartbeats 1600000 in
theorem expand_many (nm val : B) (L : List B) (strong : Bool) (w : World) (m : Int) (hm : w.cell? ⟨0, 0, none⟩ = some (.int .i64 m)) (hl : val.length ≤ 1048576) (hn : nm = edgeName) (hs : splitB val = L) (hw : exWhich L.length = none) :
  Calls Tryd.prog 34 #[.agg #[.string (str nm), .string (str val), .bool strong]] w fun e w' => e = .returned (.tuple #[.slice none 0 0, .int .i64 5]) ∧ Below w.heap.size w w' := by
  have g : (nm == [101, 100, 103, 101]) = true := by simp [hn, edgeName]
  have HS := Lib.hid hs
  have HW := Lib.hid hw
  have hLl : L.length ≤ 1048577 := by have := splitB_len val; rw [hs] at this; omega
  clear hn hs hw
  go_enter Tryd.func34, Tryd.ntmps34
  go_wp2_with fail
  refine (split_any val m _ (by omega) (by rw [World.cell?_alloc_old _ _ _ (by have := World.block_lt_of_cell? _ _ hm; dsimp at this ⊢; omega)]; exact hm)).mono ?_
  rintro e w2 ⟨rfl, hw2⟩
  rw [HS.out] at hw2 ⊢
  have hb2 := ((Below.refl w.heap.size w).alloc (Nat.le_refl _) (.cells #[.string (str nm), .string (str val), .bool strong] 55 (0, 0))).alloc (by simp) (.cells (L.map fun x => Value.string (str x)).toArray 9 (0, 0))
  rw [← hw2] at hb2
  have HB2 := Lib.hid hb2
  clear hw2 hb2
  go_upto_region 4 with fail
  have e0 := run_made (P := Tryd.prog) w2 125
  have e1 := ex_ins1 w2
  have e2 := ex_ins2 w2
  have e3 := ex_ins3 w2
  have e4 := ex_ins4 w2
  have e5 := ex_look w2 L.length
  rw [HW.out] at e5
  simp only [Option.isSome_none] at e5
  go_wp2_with fail
  refine bodyPost_ret (v := .tuple #[.slice none 0 0, .int .i64 5]) (by simp [results, Tryd.results34, go_sem]) rfl ?_
  exact ⟨rfl, (HB2.out.alloc HB2.out.size _).alloc (Nat.le_trans HB2.out.size (by simp)) _⟩

set_option maxHeartbeats 800000 in
theorem expand_plain_any (nm val : B) (strong : Bool) (w : World) (hn : nm ≠ edgeName) :
  Calls Tryd.prog 34 #[.agg #[.string (str nm), .string (str val), .bool strong]] w fun e w' => ∃ v, e = .returned (.tuple #[v, .int .i64 0]) ∧ Below w.heap.size w w' ∧ DeclsIn w' (fun k => k < w.heap.size) v [⟨nm, val, strong⟩] := by
  have g : (nm == [101, 100, 103, 101]) = false := beq_false_of_ne hn
  clear hn
  go_enter Tryd.func34, Tryd.ntmps34
  go_wp2_with fail
  refine bodyPost_ret (v := .tuple #[.slice (some ⟨w.heap.size + 1, 0, none⟩) 1 1, .int .i64 0]) (by simp [results, Tryd.results34, go_sem]) rfl ?_
  have hh := newIn (w.alloc (.cells #[.string (str nm), .string (str val), .bool strong] 55 (0, 0))) (.cells #[.string (str nm), .string (str val), .bool strong] 55 (0, 0))
  have e1 : (w.alloc (.cells #[.string (str nm), .string (str val), .bool strong] 55 (0, 0))).heap.size = w.heap.size + 1 := by simp
  rw [e1] at hh
  refine ⟨_, rfl, ((Below.refl _ _).alloc (Nat.le_refl _) _).alloc (by simp) _, ⟨_, _, rfl, Nat.le_refl _, by unfold maxLen; omega, fun _ => ⟨_, _, rfl, ?_⟩⟩, ?_⟩
  · intro i r hr j c hc
    cases i with
    | zero =>
      simp at hr; subst hr
      rw [cell_of_row _ _ _ _ _ _ hh]
      simpa [declCells] using hc
    | succ i => simp at hr
  · intro k hk
    cases hk
    exact ⟨fun h => by simp at h; omega, by simp⟩

/-- what a call of Expand comes to -/
def ExpandEnds (w : World) (r : Option (List PDecl)) (e : Ending) (w' : World) : Prop :=
  match r with
  | none => e = .returned (.tuple #[.slice none 0 0, .int .i64 5]) ∧ Below w.heap.size w w'
  | some x => ∃ v, e = .returned (.tuple #[v, .int .i64 0]) ∧ Below w.heap.size w w' ∧ DeclsIn w' (fun k => k < w.heap.size) v x

theorem expand_any (d : PDecl) (w : World) (m : Int) (hm : w.cell? ⟨0, 0, none⟩ = some (.int .i64 m)) (hl : d.val.length ≤ 1048576) :
    Calls Tryd.prog 34 #[.agg #[.string (str d.name), .string (str d.val), .bool d.strong]] w (ExpandEnds w (pExpand d)) := by
  obtain ⟨nm, val, st⟩ := d
  simp only at hl ⊢
  by_cases hn : nm = edgeName
  · unfold pExpand
    simp only [hn, if_true]
    cases hs : splitB val with
    | nil => exact absurd hs (splitB_ne val)
    | cons a L =>
      match L with
      | [] => exact expand_edge edgeName val [a] st 0 0 0 0 a a a a w m hm hl rfl hs rfl rfl rfl rfl rfl
      | [b] => exact expand_edge edgeName val [a, b] st 0 1 0 1 a b a b w m hm hl rfl hs rfl rfl rfl rfl rfl
      | [b, c] => exact expand_edge edgeName val [a, b, c] st 0 1 2 1 a b c b w m hm hl rfl hs rfl rfl rfl rfl rfl
      | [b, c, d] => exact expand_edge edgeName val [a, b, c, d] st 0 1 2 3 a b c d w m hm hl rfl hs rfl rfl rfl rfl rfl
      | b :: c :: d :: x :: L => exact expand_many edgeName val _ st w m hm hl rfl hs rfl
  · unfold pExpand
    simp only [hn, if_false]
    exact expand_plain_any nm val st w hn
end Go.Proofs.YtplbdlgmjehckacDoor
