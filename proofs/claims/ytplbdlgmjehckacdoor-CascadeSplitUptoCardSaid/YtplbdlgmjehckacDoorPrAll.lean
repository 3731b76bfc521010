/-
  props.All.
-/
import Derived.Test.YtplbdlgmjehckacDoorPrExpand
import Derived.Test.YtplbdlgmjehckacDoorRowsNews
import Derived.Test.YtplbdlgmjehckacDoorReads
namespace Go.Proofs.YtplbdlgmjehckacDoor
open Go.RowKit
set_option linter.unusedVariables false
set_option linter.unusedSimpArgs false

theorem expand_len {d : PDecl} {x : List PDecl} (h : pExpand d = some x) : 1 ≤ x.length ∧ x.length ≤ 4 := by
  unfold pExpand at h
  split at h
  · split at h
    all_goals first
      | (cases h; exact ⟨by simp [edges], by simp [edges]⟩)
      | cases h
  · cases h; simp
theorem all_take {ds : List PDecl} {k : Nat} {d : PDecl} {xs : List PDecl} (hd : ds[k]? = some d) (hx : pAll (ds.take k) = some xs) : pAll (ds.take (k + 1)) = match pExpand d with | none => none | some y => some (xs ++ y) := by
  rw [List.take_add_one, hd, Option.toList_some, all_app, hx]
  simp only [pAll]
  cases pExpand d <;> simp
theorem all_none_take {ds : List PDecl} {k : Nat} (h : pAll (ds.take k) = none) : pAll ds = none := by
  have := all_app (xs := ds.take k) (ys := ds.drop k)
  rw [List.take_append_drop, h] at this
  exact this
/-- what a call of All comes to -/
def AllEnds (w : World) (r : Option (List PDecl)) (e : Ending) (w' : World) : Prop :=
  match r with
  | none => e = .returned (.tuple #[.slice none 0 0, .int .i64 5]) ∧ Below w.heap.size w w'
  | some x => ∃ v, e = .returned (.tuple #[v, .int .i64 0]) ∧ Below w.heap.size w w' ∧ DeclsIn w' (fun k => k < w.heap.size) v x
structure ALoop (w wr : World) (base : Nat) (l : Value) (ds : List PDecl) (k n : Nat) (xs : List PDecl) : Prop where
  own : wr.ownsRow base 55 3 l n (xs.map declCells).flatten
  kept : Kept (fun _ => False) w wr
  all : pAll (ds.take k) = some xs
  len : n = xs.length ∧ n ≤ 4 * k
theorem ALoop.form {w wr : World} {base : Nat} {l : Value} {ds xs : List PDecl} {k n : Nat} (h : ALoop w wr base l ds k n xs) : ∃ vo vc, l = .slice vo n vc := by
  rcases h.own.2 with ⟨h, hn⟩ | ⟨g, cap, cur, h, _⟩
  · exact ⟨none, 0, by rw [h, hn]⟩
  · exact ⟨_, cap, h⟩
theorem decl_ones (xs : List PDecl) : ∀ u ∈ (xs.map declCells).flatten, u.oneCell' = true := by
  intro u hu
  simp only [List.mem_flatten, List.mem_map] at hu
  obtain ⟨r, ⟨d, _, rfl⟩, hu⟩ := hu
  exact decl_one d u hu

set_option maxRecDepth 100000 in
set_option maxHeartbeats 1600000 in
theorem all_any (w : World) (v : Value) (ds : List PDecl) (h : DeclsAt w v ds) (hN : ds.length ≤ 5000000) (hone : ∀ d ∈ ds, d.val.length ≤ 1048576) (m : Int) (hm : w.cell? ⟨0, 0, none⟩ = some (.int .i64 m)) :
    Calls Tryd.prog 21 #[v] w (AllEnds w (pAll ds)) := by
  obtain ⟨av, cv, rfl, hcv1, hcv2⟩ := h.form
  unfold maxLen at hcv2
  obtain ⟨base, HBASE⟩ : ∃ base, Hid (w.heap.size = base) := ⟨_, rfl⟩
  obtain ⟨R, HR⟩ : ∃ R, Hid (pAll ds = R) := ⟨_, rfl⟩
  rw [HR.out]
  obtain ⟨i0, hi0, hz0, hz1, hz2⟩ := info_parts info_decl
  have H := Lib.hid h
  have HONE := Lib.hid hone
  have HM := Lib.hid hm
  clear h hone hm
  go_enter Tryd.func21, Tryd.ntmps21
  go_wp2_with fail
  go_loopw [4, 11] (fun l i wr => ∃ (k n : Nat) (xs : List PDecl), k ≤ ds.length ∧ i = .int .i64 k ∧ ALoop w wr base l ds k n xs) (fun _ i _ => ds.length - (intOf i).toNat)
  case atStart => exact ⟨0, 0, [], by omega, rfl, World.ownsRow_nil _ _ _ _, Kept.refl _ _, rfl, rfl, by omega⟩
  case round =>
    obtain ⟨i, n, xs, hi, rfl, hL⟩ := hrel
    obtain ⟨lo, lc, rfl⟩ := hL.form
    have HL := Lib.hid hL
    obtain ⟨hn1, hn2⟩ := hL.len
    clear hL hn1
    by_cases hlt : i < ds.length
    · have hx := List.getElem?_eq_getElem hlt
      generalize hgx : ds[i] = x at hx
      clear hgx
      obtain ⟨b, off, rfl, g0, g1, g2⟩ := DeclsAt.at (decls_firm.kept H.out HL.out.kept) hx
      have hxl := HONE.out x (List.mem_of_getElem? hx)
      have HX := Lib.hid hx
      clear hx
      go_wp2_with fail
      obtain ⟨wa, HWA⟩ : ∃ x', Hid (wr.alloc (.cells #[.string (str x.name), .string (str x.val), .bool x.strong] 55 (0,0)) = x') := ⟨_, rfl⟩
      have ka : Kept (fun _ => False) w wa := by rw [← HWA.out]; exact HL.out.kept.alloc _
      have how : wa.ownsRow base 55 3 (.slice lo n lc) n (xs.map declCells).flatten := by rw [← HWA.out]; exact HL.out.own.alloc _
      have hm1 : wa.cell? ⟨0, 0, none⟩ = some (.int .i64 m) := ka.cell id HM.out
      have hsz : base ≤ wa.heap.size := by have := ka.size; have := HBASE.out; omega
      have KA := Lib.hid ka
      have HOW := Lib.hid how
      clear ka how g0 g1 g2
      rw [HWA.out]
      refine (expand_any x wa m hm1 hxl).mono ?_
      intro e w2 hE
      cases hp : pExpand x with
      | none =>
        rw [hp] at hE
        obtain ⟨rfl, hb2⟩ := hE
        have hR : Hid (R = none) := Lib.hid (by
          have := all_take HX.out HL.out.all
          rw [hp] at this
          rw [← HR.out]; exact all_none_take this)
        have K2 := Lib.hid (KA.out.trans (Kept.of_below hb2))
        clear hp hb2
        go_wp2_with fail
        refine bodyPost_ret (v := .tuple #[.slice none 0 0, .int .i64 5]) (by simp [results, Tryd.results21, go_sem]) rfl ?_
        rw [hR.out]
        exact ⟨rfl, K2.out.below⟩
      | some y =>
        rw [hp] at hE
        obtain ⟨v2, rfl, hb2, hD2⟩ := hE
        have hT : Hid (pAll (ds.take (i + 1)) = some (xs ++ y)) := Lib.hid (by
          have := all_take HX.out HL.out.all
          rw [hp] at this
          exact this)
        obtain ⟨hy1, hy2⟩ := expand_len hp
        obtain ⟨ya, yc, rfl, hyc1, hyc2⟩ := hD2.form
        obtain ⟨yb, yo, rfl⟩ := hD2.1.addr (by intro h0; have := congrArg List.length h0; simp at this; simp [this] at hy1)
        have hnews := Lib.hid (hD2.1.news decl_rows)
        have K2 := Lib.hid (KA.out.trans (Kept.of_below hb2))
        have how2 := owns_kept HOW.out (Kept.of_below (S := fun _ => False) hb2) (fun _ _ => id)
        have hsz2 : base ≤ w2.heap.size := by have := hb2.size; omega
        unfold maxLen at hyc2
        clear hp hb2
        go_wp2_with (at_builtin; refine wpList_append_lies _ rfl _ _ _ rfl base 55 i0 _ 3 40 Tryd.underlying27 hi0 hz0 hz1 hz2 rfl (by omega) _ n _ (by rfl) how2 ⟨yb, yo, none⟩ y.length yc ((y.map declCells).flatten) (by rfl) (by rw [flatten_len 3 _ decl_rows, List.length_map]) hnews.out (decl_ones y) (by omega) (by unfold maxLen; omega) (by omega) (by omega) w2.heap.size rfl ?_; intro gg cap w4 hown4 hgrow4 hat4 hlt4)
        go_roundw
        case measure => simp [intOf]; omega
        case rel =>
          refine ⟨i + 1, n + y.length, xs ++ y, by omega, by go_num, ?_, K2.out.grown hgrow4 (fun k hk => .inr (by have := (how2.lt k hk).1; have := HBASE.out; omega)), hT.out, ?_⟩
          · rw [List.map_append, List.flatten_append]; exact hown4
          · have := HL.out.len
            exact ⟨by rw [List.length_append]; omega, by omega⟩
    · obtain rfl : i = ds.length := by omega
      go_wp2_with fail
      refine bodyPost_ret (v := .tuple #[.slice lo n lc, .int .i64 0]) (by simp [results, Tryd.results21, go_sem]) rfl ?_
      have hall := HL.out.all
      rw [List.take_length] at hall
      rw [← HR.out, hall]
      refine ⟨_, rfl, HL.out.kept.below, rowsAt_of_owns decl_rows (by rw [List.length_map]; exact HL.out.len.1) HL.out.own, fun k hk => ⟨fun hx => by have := (HL.out.own.lt k hk).1; have := HBASE.out; omega, (HL.out.own.lt k hk).2⟩⟩
end Go.Proofs.YtplbdlgmjehckacDoor
