/-
  Lemmas for the claims of this seat: the program's functions walked, and plain laws. In this order: ShPrint FoStyle FoBuilder.
-/
import Derived.Test.YtplbdlgmjehckadGreatDoorPk16
import Derived.Test.YtplbdlgmjehckadGreatDoorPk13
import Derived.Deep.Light
import Derived.Test.YtplbdlgmjehckadGreatDoorPk18
import Derived.Test.YtplbdlgmjehckadGreatDoorPk24
import Derived.Test.YtplbdlgmjehckadGreatDoorShelf
import Derived.Test.YtplbdlgmjehckadGreatDoorPk9
import Derived.Lib.FrozenHead2
import Derived.Lib.OthersKept
namespace Go.Proofs.YtplbdlgmjehckadGreatDoor
open Go.RowKit
set_option linter.unusedVariables false
set_option linter.unusedSimpArgs false
theorem print_join : ∀ ds : List PDecl, Lib.join (ds.map printOne) [59, 32] = sPrint ds
  | [] => rfl
  | [d] => by simp [Lib.join, sPrint, List.intercalate]
  | d :: e :: ds => by
    have := print_join (e :: ds)
    simp only [Lib.join, List.map_cons] at this
    simp only [Lib.join, List.map_cons, List.intercalate, List.intersperse, List.flatten_cons] at this ⊢
    simp [sPrint, this]
theorem printOne_len (d : PDecl) : (printOne d).length ≤ d.name.length + d.val.length + 13 := by
  unfold printOne; split <;> simp [importantWord] <;> omega
theorem sPrint_len (c : Nat) : ∀ ds : List PDecl, (∀ d ∈ ds, d.name.length + d.val.length ≤ c) → (sPrint ds).length ≤ ds.length * (c + 15)
  | [], _ => by simp [sPrint]
  | [d], h => by have := printOne_len d; have := h d (by simp); simp [sPrint]; omega
  | d :: e :: ds, h => by
    have h1 := printOne_len d
    have h2 := h d (by simp)
    have h3 := sPrint_len c (e :: ds) (fun x hx => h x (by simp [hx]))
    simp only [sPrint, List.length_append, List.length_cons, List.length_nil] at h3 ⊢
    rw [Nat.add_one_mul (ds.length + 1)]
    omega
set_option maxHeartbeats 400000 in
theorem clip_any (w : World) (a : Option Addr) (n cap : Nat) (h1 : n ≤ cap) (h2 : cap ≤ maxLen) (h0 : a = none → n = 0) :
    Calls Tryz.prog 54 #[.slice a n cap] w fun e w' => (e = .returned (.slice a n n)) ∧ w' = w := by
  unfold maxLen at h2
  go_enter Tryz.func54, Tryz.ntmps54
  go_wp2
  go_ret
  exact ⟨rfl, rfl⟩
structure OLoop (w wr : World) (base : Nat) (l : Value) (ds : List PDecl) (k : Nat) : Prop where
  own : wr.ownsRow base 9 1 l k ((ds.take k).map (fun d => wordCells (printOne d))).flatten
  kept : Kept (fun _ => False) w wr
set_option maxRecDepth 100000 in
set_option maxHeartbeats 3200000 in
theorem print_at (w : World) (v : Value) (ds : List PDecl) (h : DeclsAt w v ds) (hN : ds.length ≤ 4000000) (hone : ∀ d ∈ ds, d.name.length + d.val.length ≤ 4000000) :
    Calls Tryz.prog 32 #[v] w fun e w' => e = .returned (.string (str (sPrint ds))) ∧ Below w.heap.size w w' := by
  obtain ⟨av, cv, rfl, hcv1, hcv2⟩ := h.form
  unfold maxLen at hcv2
  obtain ⟨base, HBASE⟩ : ∃ base, Hid (w.heap.size = base) := ⟨_, rfl⟩
  obtain ⟨i0, hi0, hz0, hz1, hz2⟩ := info_parts info_str
  have H := Lib.hid h
  have HONE := Lib.hid hone
  clear h hone
  go_enter Tryz.func32, Tryz.ntmps32
  go_upto_block 0 with fail
  go_cut [3] (fun l wx => OLoop w wx base l ds ds.length)
  case first =>
    go_wp2_with fail
    go_loopw [3, 9] (fun l i wr => ∃ k : Nat, k ≤ ds.length ∧ i = .int .i64 k ∧ OLoop w wr base l ds k) (fun _ i _ => ds.length - (intOf i).toNat)
    case atStart => exact ⟨0, by omega, rfl, World.ownsRow_nil _ _ _ _, Kept.refl _ _⟩
    case round =>
      obtain ⟨i, hi, rfl, hL⟩ := hrel
      have HL := Lib.hid hL
      have hform : ∃ vo vc, u3 = .slice vo i vc := by
        rcases hL.own.2 with ⟨h, hn⟩ | ⟨g, cap, cur, h, _⟩
        · exact ⟨none, 0, by rw [h, hn]⟩
        · exact ⟨_, cap, h⟩
      obtain ⟨lo, lc, rfl⟩ := hform
      clear hL
      by_cases hlt : i < ds.length
      · have hx := List.getElem?_eq_getElem hlt
        generalize hgx : ds[i] = x at hx
        obtain ⟨b, off, rfl, g0, g1, g2⟩ := DeclsAt.at (decls_firm _ _ _ _ H.out HL.out.kept.below) hx
        have hxl := HONE.out x (List.mem_of_getElem? hx)
        have hxn : x.name.length ≤ 4000000 := by omega
        have hxv : x.val.length ≤ 4000000 := by omega
        go_upto_region 5 with fail
        obtain ⟨wa, HWA⟩ : ∃ x', Hid (wr.alloc (.cells #[.string (str x.name), .string (str x.val), .bool x.strong] 98 (0,0)) = x') := ⟨_, rfl⟩
        have hn : wa.heap[wr.heap.size]? = some (.cells #[.string (str x.name), .string (str x.val), .bool x.strong] 98 (0,0)) := by rw [← HWA.out]; exact newIn wr _
        have ka : Kept (fun _ => False) w wa := by rw [← HWA.out]; exact HL.out.kept.alloc _
        have how : wa.ownsRow base 9 1 (.slice lo i lc) i ((ds.take i).map (fun d => wordCells (printOne d))).flatten := by rw [← HWA.out]; exact HL.out.own.alloc _
        have n0 : wa.cell? ⟨wr.heap.size, 0, none⟩ = some (.string (str x.name)) := cellIn hn 0 rfl
        have n1 : wa.cell? ⟨wr.heap.size, 1, none⟩ = some (.string (str x.val)) := cellIn hn 1 rfl
        have n2 : wa.cell? ⟨wr.heap.size, 2, none⟩ = some (.bool x.strong) := cellIn hn 2 rfl
        have hsz : base ≤ wa.heap.size := by have := ka.size; have := HBASE.out; omega
        have KA := Lib.hid ka
        have z1 : (str x.name).size ≤ 4000000 := by rw [str_size]; exact hxn
        have z2 : (str x.val).size ≤ 4000000 := by rw [str_size]; exact hxv
        clear hn ka g0 g1 g2
        rw [HWA.out]
        go_upto_if 20 with fail
        go_cut [6] (fun u wx => u = .string (str (printOne x)) ∧ wx = wa)
        case first =>
          cases hst : x.strong
          · rw [hst] at n2
            go_wp2_with fail
            go_meet
            case rel => exact ⟨by simp [printOne, hst, importantWord], rfl⟩
          · rw [hst] at n2
            go_wp2_with fail
            go_meet
            case rel => exact ⟨by simp [printOne, hst, importantWord], rfl⟩
        case rest =>
          obtain ⟨rfl, rfl⟩ := hcut
          obtain ⟨P, HP⟩ : ∃ P, Hid (printOne x = P) := ⟨_, rfl⟩
          have HOW := Lib.hid how
          rw [HP.out]
          clear n0 n1 n2
          go_wp2_with (at_builtin; refine wpList_append_lies _ rfl _ _ _ rfl base 9 i0 _ 1 16 Tryz.underlying37 hi0 hz0 hz1 hz2 rfl (by omega) _ i _ (by rfl) (how.alloc _) ⟨wc.heap.size, 0, none⟩ 1 1 (wordCells P) (by rfl) (by rfl) (World.news_of_block (cs := (wordCells P).toArray) (t := 9) (fr := (0, 0)) (heap_alloc_new wc _)) (by simp [wordCells, Value.oneCell']) (by omega) (by unfold maxLen; omega) (by omega) (by simp; omega) (wc.heap.size + 1) (by simp) ?_; intro gg cap w4 hown4 hgrow4 hat4 hlt4)
          go_roundw
          case measure => simp [intOf]; omega
          case rel =>
            refine ⟨i + 1, by omega, by go_num, ?_, (KA.out.alloc _).grown hgrow4 (fun k hk => .inr (by have := (HOW.out.lt k hk).1; have := HBASE.out; omega))⟩
            have ht : ds.take (i + 1) = ds.take i ++ [x] := by rw [List.take_add_one, hx]; rfl
            rw [ht, List.map_append, List.flatten_append, List.map_singleton, List.flatten_singleton, HP.out]
            exact hown4
      · obtain rfl : i = ds.length := by omega
        go_wp2_with fail
        go_meet
        case rel => exact HL.out
  case rest =>
    have HL := Lib.hid hcut
    have how := hcut.own
    rw [List.take_length] at how
    clear hcut
    by_cases hn0 : ds = []
    · subst hn0
      have hform : ∃ vo vc, u3 = .slice vo 0 vc ∧ vc ≤ maxLen := by
        rcases how.2 with ⟨h, hn⟩ | ⟨g, cap, cur, h, h1, h2, h3, h4, _⟩
        · exact ⟨none, 0, h, by simp [maxLen]⟩
        · exact ⟨_, cap, h, h4⟩
      obtain ⟨vo, vc, rfl, hvc⟩ := hform
      go_wp2_with (go_at_call 54; refine (clip_any _ vo 0 vc (by omega) hvc (fun _ => rfl)).mono ?_; rintro e w1 ⟨rfl, rfl⟩)
      go_wp2_with (go_at_call 53; refine (Tryz.strings_Join_none _ _ _ _).mono ?_; rintro e w1 ⟨rfl, rfl⟩)
      go_ret
      exact ⟨rfl, HL.out.kept.below⟩
    · have hrows := rowsAt_of_owns (rows := ds.map (fun d => wordCells (printOne d))) (by intro r hr; obtain ⟨d, _, rfl⟩ := List.mem_map.1 hr; rfl) (by simp) how
      obtain ⟨a3, c3, rfl, h1, h2, h3⟩ := hrows
      obtain ⟨g, o, rfl, h4⟩ := h3 (by simpa using hn0)
      rw [List.length_map] at h1 ⊢
      have hg := (how.lt g rfl).2
      have HC : Hid (∀ (j : Nat) (y : ByteArray), (ds.map (fun d => str (printOne d)))[j]? = some y → wc.cell? ⟨g, o + j, none⟩ = some (.string y)) := Lib.hid (by
        intro j y hy
        rw [List.getElem?_map] at hy
        cases hd : ds[j]? with
        | none => rw [hd] at hy; simp at hy
        | some d =>
          rw [hd] at hy
          simp at hy
          subst hy
          have := h4 j (wordCells (printOne d)) (by simp [hd]) 0 _ rfl
          simpa using this)
      have hjoin : (ds.map (fun d => str (printOne d))).map (·.data.toList) = ds.map printOne := by rw [List.map_map]; rfl
      have hJ : Lib.join ((ds.map (fun d => str (printOne d))).map (·.data.toList)) (str [59, 32]).data.toList = sPrint ds := by rw [hjoin]; exact print_join ds
      have HJ := Lib.hid hJ
      have hlen := sPrint_len 4000000 ds HONE.out
      have hlen2 : (sPrint ds).length ≤ 140737488355328 := by
        refine Nat.le_trans hlen (Nat.le_trans (Nat.mul_le_mul_right _ hN) (by omega))
      have hc3 : ds.length ≤ c3 := by simpa using h1
      have hJn := Tryz.strings_Join g o ds.length (ds.map (fun d => str (printOne d))) (str [59, 32]) wc HC.out hg (by rw [List.length_map]; omega) (by rw [List.length_map]; exact Nat.le_refl _) (by rw [HJ.out]; exact hlen2)
      rw [List.length_map, HJ.out] at hJn
      clear how h3 h4 hjoin hJ hlen
      go_wp2_with (go_at_call 54; refine (clip_any _ (some ⟨g, o, none⟩) ds.length c3 hc3 (by simpa using h2) (fun h => by cases h)).mono ?_; rintro e w1 ⟨rfl, rfl⟩)
      go_wp2_with (go_at_call 53; refine hJn.mono ?_; rintro e w2 ⟨rfl, hb⟩)
      go_ret
      exact ⟨rfl, HL.out.kept.below.trans (hb.mono HL.out.kept.size)⟩
theorem print_any (w : World) (X : Nat → Prop) (v : Value) (ds : List PDecl) (h : DeclsIn w X v ds) (hN : ds.length ≤ 4000000) (hone : ∀ d ∈ ds, d.name.length + d.val.length ≤ 4000000) :
    Calls Tryz.prog 32 #[v] w fun e w' => e = .returned (.string (str (sPrint ds))) ∧ Below w.heap.size w w' := print_at w v ds h.1 hN hone
end Go.Proofs.YtplbdlgmjehckadGreatDoor

namespace Go.Proofs.YtplbdlgmjehckadGreatDoor
open Go.RowKit
set_option linter.unusedVariables false
set_option linter.unusedSimpArgs false
theorem info_declO : (Tryz.prog.info? 98).map (fun i => (i.zero, i.size, i.bytes)) = some (some (.agg #[.string ⟨#[]⟩, .string ⟨#[]⟩, .bool false]), 3, 40) := by kernel_rfl
structure DOp (w wr : World) (v : Value) (ds : List PDecl) : Prop where
  own : wr.ownsRow w.heap.size 98 3 v ds.length (ds.map declCells).flatten
  kept : Kept (fun _ => False) w wr
theorem DOp.by_kept {w wr wx : World} {v : Value} {ds : List PDecl} (h : DOp w wr v ds) (hk : Kept (fun _ => False) wr wx) : DOp w wx v ds := ⟨owns_kept h.own hk (fun _ _ => id), h.kept.trans hk⟩
theorem DOp.push {w wr : World} {ao : Option Addr} {ac : Nat} {ds : List PDecl} (h : DOp w wr (.slice ao ds.length ac) ds) (d : PDecl) (hq : ds.length ≤ 1099600000000) :
    ∃ a' c' w', (Builtin.append_ #[45, 45] 45 #[.slice ao ds.length ac, .slice (some ⟨wr.heap.size, 0, none⟩) 1 1]).run Tryz.prog (wr.alloc (.cells #[.string (str d.name), .string (str d.val), .bool d.strong] 98 (0, 0))) = .ok (.slice a' (ds.length + 1) c') w' ∧ DOp w w' (.slice a' (ds.length + 1) c') (ds ++ [d]) := by
  obtain ⟨i0, hi0, hz0, hz1, hz2⟩ := info_parts info_declO
  obtain ⟨wa, HWA⟩ : ∃ x, wr.alloc (.cells #[.string (str d.name), .string (str d.val), .bool d.strong] 98 (0, 0)) = x := ⟨_, rfl⟩
  have hb : wa.heap[wr.heap.size]? = some (.cells #[.string (str d.name), .string (str d.val), .bool d.strong] 98 (0, 0)) := by rw [← HWA]; exact newIn wr _
  have hka : Kept (fun _ => False) wr wa := by rw [← HWA]; exact (Kept.refl _ wr).alloc _
  obtain ⟨h2, hk⟩ := h.by_kept hka
  obtain ⟨a', c', w', hr', ho', k', _⟩ := append_any (P := Tryz.prog) wa 45 45 w.heap.size 98 i0 _ 3 40 Tryz.underlying45 hi0 hz0 hz1 hz2 rfl (by omega) ao ds.length ac _ h2 (some ⟨wr.heap.size, 0, none⟩) 1 1 [declCells d] (rows_fresh hb rfl (by simp [declCells]) rfl (by simp [maxLen])) (by simp [declCells]) (by simp [declCells, Value.oneCell']) (by unfold maxLen; omega) (by omega) hk.size
  rw [HWA]
  refine ⟨a', c', w', hr', ?_, hk.trans' k' (fun i hi hx => ?_)⟩
  · rw [List.length_append, List.map_append, List.flatten_append]
    exact ho'
  · have := (h2.lt i hx).1; omega
theorem declsIn_of_owns {w : World} {base : Nat} {v : Value} {ds : List PDecl} (h : w.ownsRow base 98 3 v ds.length (ds.map declCells).flatten) : DeclsIn w (fun _ => False) v ds :=
  ⟨rowsAt_of_owns (by intro r hr; obtain ⟨x, _, rfl⟩ := List.mem_map.1 hr; rfl) (by simp) h, fun k hk => ⟨id, (h.lt k hk).2⟩⟩
def lookOf (r : Ans (List PDecl)) : List PDecl := match r with
  | .bad _ => []
  | .ok l => l
theorem styleText_look (ns : List PNode) (k : Nat) (gone : List PRule) : styleText ns k gone = (sPrint (lookOf (cDeclared ns (k : Int) gone [])), decide ((lookOf (cDeclared ns (k : Int) gone [])).length ≤ 20)) := by
  unfold styleText lookOf
  cases cDeclared ns (k : Int) gone [] with
  | bad f => rfl
  | ok l => rfl
set_option maxRecDepth 100000 in
set_option maxHeartbeats 3200000 in
theorem style_any (ns : List PNode) (gone : List PRule) (hc : CaCtx ns gone) (k : Nat) (hk : k ≤ 1048576) (hlk : (lookOf (cDeclared ns (k : Int) gone [])).length ≤ 4000000 ∧ ∀ d ∈ lookOf (cDeclared ns (k : Int) gone []), d.name.length + d.val.length ≤ 4000000) (m : Int) (w : World) (v rv : Value) (hv : NodesAt w v ns) (hr : RulesAt w rv gone) (hm : w.cell? ⟨0, 0, none⟩ = some (.int .i64 m)) :
    Calls Tryz.prog 12 #[v, .int .i64 (k : Int), rv] w fun e w' => e = .returned (.tuple #[.string (str (styleText ns k gone).1), .bool (styleText ns k gone).2]) ∧ Kept (fun _ => False) w w' := by
  rw [styleText_look]
  have hdc := declared_any ns gone hc [] (k : Int) (by omega) m w v rv (.slice none 0 0) hv hr (RowsAt.nil _ _) hm
  obtain ⟨look, HLK⟩ : ∃ x, Hid (lookOf (cDeclared ns (k : Int) gone []) = x) := ⟨_, rfl⟩
  rw [HLK.out] at hlk ⊢
  have HDC : Hid (Calls Tryz.prog 24 #[v, .int .i64 (k : Int), rv, .slice none 0 0] w fun e w' => ∃ la lc er, e = .returned (.tuple #[.slice la look.length lc, .int .i64 er]) ∧ Kept (fun _ => False) w w' ∧ DeclsAt w' (.slice la look.length lc) look) := Lib.hid (hdc.mono fun e w' he => by
    have hl := HLK.out
    cases hD : cDeclared ns (k : Int) gone [] with
    | bad f =>
      rw [hD] at he hl
      obtain ⟨rfl, hk', _⟩ := he
      obtain rfl : [] = look := hl
      exact ⟨none, 0, _, rfl, hk', RowsAt.nil _ _⟩
    | ok l =>
      rw [hD] at he hl
      obtain rfl : l = look := hl
      obtain ⟨lv, rfl, hk', hlv, _⟩ := he
      obtain ⟨la, lc, rfl, _, _⟩ := DeclsAt.form hlv
      exact ⟨la, lc, 0, rfl, hk', hlv⟩)
  obtain ⟨hl1, hl2⟩ := hlk
  have HL2 := Lib.hid hl2
  clear hdc hc hv hr hm hl2
  go_enter Tryz.func12, Tryz.ntmps12
  go_wp2_with fail
  refine HDC.out.mono ?_
  rintro e w1 ⟨la, lc, er, rfl, hk1, hlv⟩
  obtain ⟨_, _, he, hlc1, hlc2⟩ := DeclsAt.form hlv
  cases he
  unfold maxLen at hlc2
  have HK1 := Lib.hid hk1
  have HLV := Lib.hid hlv
  clear hk1 hlv
  go_wp2_with fail
  go_loopw [10, 22] (fun u c wr => ∃ i : Nat, i ≤ look.length ∧ c = .int .i64 (i : Int) ∧ Hid (DOp w1 wr u (look.take i))) (fun _ c _ => look.length - (intOf c).toNat)
  case atStart => exact ⟨0, by omega, rfl, Lib.hid ⟨World.ownsRow_nil _ _ _ _, Kept.refl _ _⟩⟩
  case round =>
    obtain ⟨i, hi, rfl, HL⟩ := hrel
    obtain ⟨wr0, hwr0⟩ : ∃ x, x = wr := ⟨_, rfl⟩
    subst hwr0
    obtain ⟨vo, vc, rfl⟩ := owns_form HL.out.own
    by_cases hlt : i < look.length
    · have hx := List.getElem?_eq_getElem hlt
      generalize hgx : look[i] = x at hx
      clear hgx
      obtain ⟨lb, lo, rfl, c0, c1, c2⟩ := DeclsAt.at (RowsAt.below HLV.out HL.out.kept.below) hx
      have hnx : Hid (look.take (i + 1) = look.take i ++ [x]) := Lib.hid (by rw [List.take_add_one, hx]; rfl)
      have hle : (look.take i).length ≤ 1099600000000 := by simp; omega
      generalize look.take i = q1 at *
      go_upto_region 6 with fail
      obtain ⟨wd, HWD⟩ : ∃ x', Hid (wr0.alloc (.cells #[.string (str x.name), .string (str x.val), .bool x.strong] 86 (0, 0)) = x') := ⟨_, rfl⟩
      have f0 : wd.cell? ⟨wr0.heap.size, 0, none⟩ = some (.string (str x.name)) := by rw [← HWD.out]; exact cellIn (newIn wr0 _) 0 rfl
      have f1 : wd.cell? ⟨wr0.heap.size, 1, none⟩ = some (.string (str x.val)) := by rw [← HWD.out]; exact cellIn (newIn wr0 _) 1 rfl
      have f2 : wd.cell? ⟨wr0.heap.size, 2, none⟩ = some (.bool x.strong) := by rw [← HWD.out]; exact cellIn (newIn wr0 _) 2 rfl
      have HID : Hid (DOp w1 wd (.slice vo q1.length vc) q1) := Lib.hid (HL.out.by_kept (by rw [← HWD.out]; exact (Kept.refl _ wr0).alloc _))
      obtain ⟨a', c', w', hr', hl'⟩ := HID.out.push x hle
      have HR' := Lib.hid hr'
      have HL' := Lib.hid hl'
      rw [HWD.out]
      clear c0 c1 c2 hx hr' hl'
      go_wp2_with (at_builtin; refine wpList_append_eq (by rfl) _ _ _ rfl _ _ _ rfl rfl _ HR'.out ?_)
      go_roundw
      case measure => simp [intOf]; omega
      case rel => exact ⟨i + 1, by omega, by go_num, Lib.hid (by rw [hnx.out]; exact HL'.out)⟩
    · obtain rfl : i = look.length := by omega
      have hown : wr0.ownsRow w1.heap.size 98 3 (.slice vo look.length vc) look.length (look.map declCells).flatten := by
        have := HL.out.own
        rw [List.take_length] at this
        exact this
      have HPR := Lib.hid (print_any wr0 (fun _ => False) _ look (declsIn_of_owns hown) hl1 HL2.out)
      have htl : (look.take look.length).length = look.length := by rw [List.take_length]
      rw [htl]
      cases hfew : decide (look.length ≤ 20) with
      | true =>
        have hfi : ((look.length : Int) ≤ 20) = True := by simp at hfew; simp; omega
        have hfn : (look.length ≤ 20) = True := by simp at hfew; simp; omega
        go_wp2_with fail
        refine HPR.out.mono ?_
        rintro e w5 ⟨rfl, hb5⟩
        go_wp2_with fail
        refine bodyPost_ret (v := .tuple #[.string (str (sPrint look)), .bool true]) (by simp [results, Tryz.results12, go_sem]) rfl ?_
        exact ⟨by show _ = Ending.returned (.tuple #[.string (str (sPrint look)), .bool (decide (look.length ≤ 20))]); rw [hfew], (HK1.out.trans HL.out.kept).trans (Kept.of_below hb5)⟩
      | false =>
        have hfi : ((look.length : Int) ≤ 20) = False := by simp at hfew; simp; omega
        have hfn : (look.length ≤ 20) = False := by simp at hfew; simp; omega
        go_wp2_with fail
        refine HPR.out.mono ?_
        rintro e w5 ⟨rfl, hb5⟩
        go_wp2_with fail
        refine bodyPost_ret (v := .tuple #[.string (str (sPrint look)), .bool false]) (by simp [results, Tryz.results12, go_sem]) rfl ?_
        exact ⟨by show _ = Ending.returned (.tuple #[.string (str (sPrint look)), .bool (decide (look.length ≤ 20))]); rw [hfew], (HK1.out.trans HL.out.kept).trans (Kept.of_below hb5)⟩
end Go.Proofs.YtplbdlgmjehckadGreatDoor

namespace Go.Proofs.YtplbdlgmjehckadGreatDoor
open Go.RowKit
set_option linter.unusedVariables false
set_option linter.unusedSimpArgs false
theorem bld_size : (Tryz.prog.info? 63).map (fun i => i.size) = some 2 := by kernel_rfl
theorem bld_lies : liesAt Tryz.prog Tryz.prog.depth 63 (2 / Tryz.prog.cellsOf 63) 0 63 1 = true := by kernel_rfl
theorem bld_u8 : (Tryz.prog.info? 5).map (fun i => (i.zero, i.size, i.bytes)) = some (some (.int .u8 0), 1, 1) := by kernel_rfl
set_option maxHeartbeats 1000000 in
set_option maxRecDepth 100000 in
theorem check_used (b : Nat) (w : World) (h0 : w.cell? ⟨b, 0, none⟩ = some (.pointer (some ⟨b, 0, none⟩))) :
    Calls Tryz.prog 35 #[.pointer (some ⟨b, 0, none⟩)] w fun e w' => e = .returned (.tuple #[]) ∧ w' = w := by
  obtain ⟨j, hj, _⟩ := Option.map_eq_some_iff.1 bld_size
  go_enter Tryz.func35, Tryz.ntmps35
  go_wp2
  rw [Lib.run_neq_ptr_same w _ Tryz.underlying61 hj]
  go_wp2
  go_end0
  exact ⟨rfl, rfl⟩
set_option maxHeartbeats 1000000 in
set_option maxRecDepth 100000 in
theorem check_fresh (b : Nat) (w : World) (h0 : w.cell? ⟨b, 0, none⟩ = some (.pointer none)) (hsh : w.shape? b = some (63, 2)) (hfz : w.frozen? ⟨b, 0, none⟩ = false) :
    Calls Tryz.prog 35 #[.pointer (some ⟨b, 0, none⟩)] w fun e w' => e = .returned (.tuple #[]) ∧ w' = w.setCell ⟨b, 0, none⟩ (.pointer (some ⟨b, 0, none⟩)) := by
  obtain ⟨j, hj, hjs⟩ := Option.map_eq_some_iff.1 bld_size
  go_enter Tryz.func35, Tryz.ntmps35
  go_wp2
  rw [Lib.run_to_unsafe w ⟨b, 0, none⟩ Tryz.underlying61 Tryz.underlying150 hj (by rw [hjs]; decide) hsh (Nat.zero_lt_succ 1)]
  simp only [Result.andThen]
  rw [Oper.upon_value]
  go_wp2
  rw [run_callFunc_extern Tryz.func65 (by kernel_rfl) (by kernel_rfl) (by kernel_rfl) (e := Extern.AbiNoEscape.same) (by kernel_rfl)]
  rw [Lib.run_noEscape]
  simp only [Result.andThen]
  rw [Oper.upon_value]
  go_wp2
  rw [Lib.run_from_unsafe w ⟨b, 0, none⟩ Tryz.underlying150 Tryz.underlying61 hj hsh bld_lies]
  simp only [Result.andThen]
  rw [Oper.upon_value]
  go_wp2
  go_end0
  exact ⟨rfl, rfl⟩
theorem check_any (B b : Nat) (bs : List Value) (w : World) (h : Lib.IsBuilderF 63 5 B b bs w) :
    Calls Tryz.prog 35 #[.pointer (some ⟨b, 0, none⟩)] w fun e w' => e = .returned (.tuple #[]) ∧ (Lib.BuilderAtF 63 5 B b (.pointer (some ⟨b, 0, none⟩)) bs w' ∧ Below B w w' ∧ Lib.OthersKept 5 (some b) w w') := by
  rcases h with h | h
  · refine (check_fresh b w h.cell0 h.shape h.frozen0).mono ?_
    rintro e w' ⟨rfl, rfl⟩
    exact ⟨rfl, h.used _, (Below.refl B w).setCell (p := ⟨b, 0, none⟩) h.1 _, (Lib.OthersKept.refl _ _ w).setCell ⟨b, 0, none⟩ rfl _⟩
  · refine (check_used b w h.cell0).mono ?_
    rintro e w' ⟨rfl, rfl⟩
    exact ⟨rfl, h, Below.refl B _, Lib.OthersKept.refl _ _ _⟩
set_option maxHeartbeats 2000000 in
set_option maxRecDepth 100000 in
theorem write_any (B b : Nat) (bs : List Value) (s : ByteArray) (w : World) (h : Lib.IsBuilderF 63 5 B b bs w) (hlen : bs.length + s.size ≤ 140737488355328) (hBw : B ≤ w.heap.size) :
    Calls Tryz.prog 17 #[.pointer (some ⟨b, 0, none⟩), .string s] w fun e w' => e = .returned (.tuple #[.int .i64 s.size, .nilIface]) ∧ (Lib.BuilderAtF 63 5 B b (.pointer (some ⟨b, 0, none⟩)) (bs ++ Lib.strCells s) w' ∧ Below B w w' ∧ Lib.OthersKept 5 (some b) w w') := by
  obtain ⟨i0, hi, hz0, hz1, hz2⟩ := info_parts bld_u8
  go_enter Tryz.func17, Tryz.ntmps17
  go_wp2_with (go_at_call 35; refine (check_any B b bs _ h).mono ?_)
  rintro e w1 ⟨rfl, h1, hb1, hk1⟩
  obtain ⟨hB, v, hbk, hown, hne⟩ := h1
  have c0 : w1.cell? ⟨b, 0, none⟩ = some (.pointer (some ⟨b, 0, none⟩)) := by rw [Lib.cell_of_heap hbk]; rfl
  have c1 : w1.cell? ⟨b, 1, none⟩ = some v := by rw [Lib.cell_of_heap hbk]; rfl
  go_wp2_with (at_builtin; refine Lib.wpList_append_own_stringF _ rfl _ _ 39 9 rfl B 5 i0 Tryz.underlying39 Tryz.underlying9 hi hz0 hz1 hz2 _ _ _ rfl hown s rfl ?c3 ?c4 ?c5 ?_)
  case c3 => unfold maxLen; omega
  case c4 => omega
  case c5 => have := hb1.size; omega
  intro v' w2 hown' hgrow _
  have hlt : b < w1.heap.size := by
    rcases Nat.lt_or_ge b w1.heap.size with h' | h'
    · exact h'
    · simp [Array.getElem?_eq_none h'] at hbk
  have hb2 : w2.heap[b]? = some (.cells #[.pointer (some ⟨b, 0, none⟩), v] 63 (0, 0)) := by
    rw [hgrow.block b hlt (fun e => hne e.symm)]
    exact hbk
  have d0 : w2.cell? ⟨b, 0, none⟩ = some (.pointer (some ⟨b, 0, none⟩)) := by rw [Lib.cell_of_heap hb2]; rfl
  have d1 : w2.cell? ⟨b, 1, none⟩ = some v := by rw [Lib.cell_of_heap hb2]; rfl
  have f1 : w2.frozen? ⟨b, 1, none⟩ = false := Lib.frozen_of_heap hb2 1
  obtain ⟨ao, n', cap, rfl⟩ : ∃ ao n' cap, v' = .slice ao n' cap := by
    rcases hown'.2 with ⟨hv, _⟩ | ⟨g, cap, cur, fz, hv, _⟩
    · exact ⟨_, _, _, hv⟩
    · exact ⟨_, _, _, hv⟩
  go_wp2
  refine bodyPost_ret (v := .tuple #[.int .i64 s.size, .nilIface]) (by simp [results, Tryz.results17, go_sem]) rfl ?_
  refine ⟨rfl, ?_, ?_, (hk1.grown hgrow (Lib.ownsRowF_kind hown)).setCell ⟨b, 1, none⟩ rfl _⟩
  · exact Lib.BuilderAtF.put (T := 63) (e := 5) hB hb2 (bs' := bs ++ Lib.strCells s) (by simpa [Lib.strCells_length] using hown') (by decide)
  · exact (hb1.grown hgrow (by have := hb1.size; omega) (fun k hk => (hown.lt k hk).1)).setCell (p := ⟨b, 1, none⟩) hB _
end Go.Proofs.YtplbdlgmjehckadGreatDoor

