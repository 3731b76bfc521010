/-
  sheet.Print: the printer of declarations.
-/
import Derived.Test.YtplbdlgmjehckabShParse2
import Derived.Test.YtplbdlgmjehckabReads
import Derived.Deep.Light
namespace Go.Proofs.Ytplbdlgmjehckab
open Go.RowKit
set_option linter.unusedVariables false
set_option linter.unusedSimpArgs false

theorem print_join : ∀ ds : List PDecl, Lib.join (ds.map printOne) [59, 32] = sPrint ds
  | [] => rfl
  | [d] => by simp [Lib.join, sPrint, List.intercalate]
  | d :: e :: ds => by
    have := print_join (e :: ds)
    simp only [Lib.join, List.map_cons] at this
    simp only [Lib.join, List.map_cons, List.intercalate, List.intersperse, List.flatten_cons] at this ⊢
    simp [sPrint, this]
theorem printOne_len (d : PDecl) : (printOne d).length ≤ d.name.length + d.val.length + 13 := by
  unfold printOne; split <;> simp [importantWord] <;> omega
theorem sPrint_len (c : Nat) : ∀ ds : List PDecl, (∀ d ∈ ds, d.name.length + d.val.length ≤ c) → (sPrint ds).length ≤ ds.length * (c + 15)
  | [], _ => by simp [sPrint]
  | [d], h => by have := printOne_len d; have := h d (by simp); simp [sPrint]; omega
  | d :: e :: ds, h => by
    have h1 := printOne_len d
    have h2 := h d (by simp)
    have h3 := sPrint_len c (e :: ds) (fun x hx => h x (by simp [hx]))
    simp only [sPrint, List.length_append, List.length_cons, List.length_nil] at h3 ⊢
    rw [Nat.add_one_mul (ds.length + 1)]
    omega

set_option maxHeartbeats 400000 in
theorem clip_any (w : World) (a : Option Addr) (n cap : Nat) (h1 : n ≤ cap) (h2 : cap ≤ maxLen) (h0 : a = none → n = 0) :
    Calls Try.prog 30 #[.slice a n cap] w fun e w' => (e = .returned (.slice a n n)) ∧ w' = w := by
  unfold maxLen at h2
  go_enter Try.func30, Try.ntmps30
  go_wp2
  go_ret
  exact ⟨rfl, rfl⟩

structure OLoop (w wr : World) (base : Nat) (l : Value) (ds : List PDecl) (k : Nat) : Prop where
  own : wr.ownsRow base 9 1 l k ((ds.take k).map (fun d => wordCells (printOne d))).flatten
  kept : Kept (fun _ => False) w wr

set_option maxRecDepth 100000 in
set_option maxHeartbeats 3200000 in
theorem print_at (w : World) (v : Value) (ds : List PDecl) (h : DeclsAt w v ds) (hN : ds.length ≤ 4000000) (hone : ∀ d ∈ ds, d.name.length + d.val.length ≤ 4000000) :
    Calls Try.prog 15 #[v] w fun e w' => e = .returned (.string (str (sPrint ds))) ∧ Below w.heap.size w w' := by
  obtain ⟨av, cv, rfl, hcv1, hcv2⟩ := h.form
  unfold maxLen at hcv2
  obtain ⟨base, HBASE⟩ : ∃ base, Hid (w.heap.size = base) := ⟨_, rfl⟩
  obtain ⟨i0, hi0, hz0, hz1, hz2⟩ := info_parts info_str
  have H := Lib.hid h
  have HONE := Lib.hid hone
  clear h hone
  go_enter Try.func15, Try.ntmps15
  go_upto_block 0 with fail
  go_cut [3] (fun l wx => OLoop w wx base l ds ds.length)
  case first =>
    go_wp2_with fail
    go_loopw [3, 9] (fun l i wr => ∃ k : Nat, k ≤ ds.length ∧ i = .int .i64 k ∧ OLoop w wr base l ds k) (fun _ i _ => ds.length - (intOf i).toNat)
    case atStart => exact ⟨0, by omega, rfl, World.ownsRow_nil _ _ _ _, Kept.refl _ _⟩
    case round =>
      obtain ⟨i, hi, rfl, hL⟩ := hrel
      have HL := Lib.hid hL
      have hform : ∃ vo vc, u3 = .slice vo i vc := by
        rcases hL.own.2 with ⟨h, hn⟩ | ⟨g, cap, cur, h, _⟩
        · exact ⟨none, 0, by rw [h, hn]⟩
        · exact ⟨_, cap, h⟩
      obtain ⟨lo, lc, rfl⟩ := hform
      clear hL
      by_cases hlt : i < ds.length
      · have hx := List.getElem?_eq_getElem hlt
        generalize hgx : ds[i] = x at hx
        obtain ⟨b, off, rfl, g0, g1, g2⟩ := DeclsAt.at (decls_firm _ _ _ _ H.out HL.out.kept.below) hx
        have hxl := HONE.out x (List.mem_of_getElem? hx)
        have hxn : x.name.length ≤ 4000000 := by omega
        have hxv : x.val.length ≤ 4000000 := by omega
        go_upto_region 5 with fail
        obtain ⟨wa, HWA⟩ : ∃ x', Hid (wr.alloc (.cells #[.string (str x.name), .string (str x.val), .bool x.strong] 62 (0,0)) = x') := ⟨_, rfl⟩
        have hn : wa.heap[wr.heap.size]? = some (.cells #[.string (str x.name), .string (str x.val), .bool x.strong] 62 (0,0)) := by rw [← HWA.out]; exact newIn wr _
        have ka : Kept (fun _ => False) w wa := by rw [← HWA.out]; exact HL.out.kept.alloc _
        have how : wa.ownsRow base 9 1 (.slice lo i lc) i ((ds.take i).map (fun d => wordCells (printOne d))).flatten := by rw [← HWA.out]; exact HL.out.own.alloc _
        have n0 : wa.cell? ⟨wr.heap.size, 0, none⟩ = some (.string (str x.name)) := cellIn hn 0 rfl
        have n1 : wa.cell? ⟨wr.heap.size, 1, none⟩ = some (.string (str x.val)) := cellIn hn 1 rfl
        have n2 : wa.cell? ⟨wr.heap.size, 2, none⟩ = some (.bool x.strong) := cellIn hn 2 rfl
        have hsz : base ≤ wa.heap.size := by have := ka.size; have := HBASE.out; omega
        have KA := Lib.hid ka
        have z1 : (str x.name).size ≤ 4000000 := by rw [str_size]; exact hxn
        have z2 : (str x.val).size ≤ 4000000 := by rw [str_size]; exact hxv
        clear hn ka g0 g1 g2
        rw [HWA.out]
        go_upto_if 20 with fail
        go_cut [6] (fun u wx => u = .string (str (printOne x)) ∧ wx = wa)
        case first =>
          cases hst : x.strong
          · rw [hst] at n2
            go_wp2_with fail
            go_meet
            case rel => exact ⟨by simp [printOne, hst, importantWord], rfl⟩
          · rw [hst] at n2
            go_wp2_with fail
            go_meet
            case rel => exact ⟨by simp [printOne, hst, importantWord], rfl⟩
        case rest =>
          obtain ⟨rfl, rfl⟩ := hcut
          obtain ⟨P, HP⟩ : ∃ P, Hid (printOne x = P) := ⟨_, rfl⟩
          have HOW := Lib.hid how
          rw [HP.out]
          clear n0 n1 n2
          go_wp2_with (at_builtin; refine wpList_append_lies _ rfl _ _ _ rfl base 9 i0 _ 1 16 Try.underlying63 hi0 hz0 hz1 hz2 rfl (by omega) _ i _ (by rfl) (how.alloc _) ⟨wc.heap.size, 0, none⟩ 1 1 (wordCells P) (by rfl) (by rfl) (World.news_of_block (cs := (wordCells P).toArray) (t := 9) (fr := (0, 0)) (heap_alloc_new wc _)) (by simp [wordCells, Value.oneCell']) (by omega) (by unfold maxLen; omega) (by omega) (by simp; omega) (wc.heap.size + 1) (by simp) ?_; intro gg cap w4 hown4 hgrow4 hat4 hlt4)
          go_roundw
          case measure => simp [intOf]; omega
          case rel =>
            refine ⟨i + 1, by omega, by go_num, ?_, (KA.out.alloc _).grown hgrow4 (fun k hk => .inr (by have := (HOW.out.lt k hk).1; have := HBASE.out; omega))⟩
            have ht : ds.take (i + 1) = ds.take i ++ [x] := by rw [List.take_add_one, hx]; rfl
            rw [ht, List.map_append, List.flatten_append, List.map_singleton, List.flatten_singleton, HP.out]
            exact hown4
      · obtain rfl : i = ds.length := by omega
        go_wp2_with fail
        go_meet
        case rel => exact HL.out
  case rest =>
    have HL := Lib.hid hcut
    have how := hcut.own
    rw [List.take_length] at how
    clear hcut
    by_cases hn0 : ds = []
    · subst hn0
      have hform : ∃ vo vc, u3 = .slice vo 0 vc ∧ vc ≤ maxLen := by
        rcases how.2 with ⟨h, hn⟩ | ⟨g, cap, cur, h, h1, h2, h3, h4, _⟩
        · exact ⟨none, 0, h, by simp [maxLen]⟩
        · exact ⟨_, cap, h, h4⟩
      obtain ⟨vo, vc, rfl, hvc⟩ := hform
      go_wp2_with (go_at_call 30; refine (clip_any _ vo 0 vc (by omega) hvc (fun _ => rfl)).mono ?_; rintro e w1 ⟨rfl, rfl⟩)
      go_wp2_with (go_at_call 29; refine (Try.strings_Join_none _ _ _ _).mono ?_; rintro e w1 ⟨rfl, rfl⟩)
      go_ret
      exact ⟨rfl, HL.out.kept.below⟩
    · have hrows := rowsAt_of_owns (rows := ds.map (fun d => wordCells (printOne d))) (by intro r hr; obtain ⟨d, _, rfl⟩ := List.mem_map.1 hr; rfl) (by simp) how
      obtain ⟨a3, c3, rfl, h1, h2, h3⟩ := hrows
      obtain ⟨g, o, rfl, h4⟩ := h3 (by simpa using hn0)
      rw [List.length_map] at h1 ⊢
      have hg := (how.lt g rfl).2
      have HC : Hid (∀ (j : Nat) (y : ByteArray), (ds.map (fun d => str (printOne d)))[j]? = some y → wc.cell? ⟨g, o + j, none⟩ = some (.string y)) := Lib.hid (by
        intro j y hy
        rw [List.getElem?_map] at hy
        cases hd : ds[j]? with
        | none => rw [hd] at hy; simp at hy
        | some d =>
          rw [hd] at hy
          simp at hy
          subst hy
          have := h4 j (wordCells (printOne d)) (by simp [hd]) 0 _ rfl
          simpa using this)
      have hjoin : (ds.map (fun d => str (printOne d))).map (·.data.toList) = ds.map printOne := by rw [List.map_map]; rfl
      have hJ : Lib.join ((ds.map (fun d => str (printOne d))).map (·.data.toList)) (str [59, 32]).data.toList = sPrint ds := by rw [hjoin]; exact print_join ds
      have HJ := Lib.hid hJ
      have hlen := sPrint_len 4000000 ds HONE.out
      have hlen2 : (sPrint ds).length ≤ 140737488355328 := by
        refine Nat.le_trans hlen (Nat.le_trans (Nat.mul_le_mul_right _ hN) (by omega))
      have hc3 : ds.length ≤ c3 := by simpa using h1
      have hJn := Try.strings_Join g o ds.length (ds.map (fun d => str (printOne d))) (str [59, 32]) wc HC.out hg (by rw [List.length_map]; omega) (by rw [List.length_map]; exact Nat.le_refl _) (by rw [HJ.out]; exact hlen2)
      rw [List.length_map, HJ.out] at hJn
      clear how h3 h4 hjoin hJ hlen
      go_wp2_with (go_at_call 30; refine (clip_any _ (some ⟨g, o, none⟩) ds.length c3 hc3 (by simpa using h2) (fun h => by cases h)).mono ?_; rintro e w1 ⟨rfl, rfl⟩)
      go_wp2_with (go_at_call 29; refine hJn.mono ?_; rintro e w2 ⟨rfl, hb⟩)
      go_ret
      exact ⟨rfl, HL.out.kept.below.trans (hb.mono HL.out.kept.size)⟩

theorem print_any (w : World) (X : Nat → Prop) (v : Value) (ds : List PDecl) (h : DeclsIn w X v ds) (hN : ds.length ≤ 4000000) (hone : ∀ d ∈ ds, d.name.length + d.val.length ≤ 4000000) :
    Calls Try.prog 15 #[v] w fun e w' => e = .returned (.string (str (sPrint ds))) ∧ Below w.heap.size w w' := print_at w v ds h.1 hN hone
end Go.Proofs.Ytplbdlgmjehckab
