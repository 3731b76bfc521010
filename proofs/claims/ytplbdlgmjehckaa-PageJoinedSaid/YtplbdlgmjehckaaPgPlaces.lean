/-
  inklaw1.PagePlaces.
-/
import Derived.Test.YtplbdlgmjehckaaPgAlive
import Derived.Test.YtplbdlgmjehckaaPgPlain
namespace Go.Proofs.Ytplbdlgmjehckaa
open Go.RowKit
set_option linter.unusedVariables false
set_option linter.unusedSimpArgs false

theorem parse_is_ok {s : B} {ns : List PNode} (h : pParse s = .ok ns) : s.length ≤ 6000 := by
  unfold pParse at h
  split at h
  · cases h
  · omega

theorem NodesAt.cap {w : World} {a : Option Addr} {n cap : Nat} {ns : List PNode} (h : NodesAt w (.slice a n cap) ns) : n ≤ cap ∧ cap ≤ 9223372036854775807 := by
  obtain ⟨a', cap', hv, h1, h2⟩ := h.form
  simp only [Value.slice.injEq] at hv
  obtain ⟨_, rfl, rfl⟩ := hv
  exact ⟨h1, by unfold maxLen at h2; omega⟩

set_option maxRecDepth 100000 in
set_option maxHeartbeats 3200000 in
theorem places_any (w : World) (s : B) (m : Int) (hm : w.cell? ⟨0, 0, none⟩ = some (.int .i64 m)) (hs : s.length ≤ 9223372036854775807) :
    Calls Try.prog 4 #[.string (str s)] w fun e w' => e = .returned (.bool true) ∧ Below w.heap.size w w' := by
  have h0 : 0 < w.heap.size := World.block_lt_of_cell? w _ hm
  have HF := Lib.hid (parse_fact s)
  cases hp : pParse s with
  | bad f =>
    have hff := HF.out
    rw [hp] at hff
    obtain ⟨hf1, hf2⟩ := hff
    have hfe : ((f.err : Int) != 0) = true := by simp; omega
    have hfp : (f.pos : Int) ≤ (s.length : Int) := by omega
    go_enter Try.func4, Try.ntmps4
    go_wp2_with (go_at_call 17; refine (alive_any _ m hm).mono ?_; rintro e w1 ⟨rfl, hb1⟩)
    have hm1 : w1.cell? ⟨0, 0, none⟩ = some (.int .i64 m) := (hb1.cell h0).trans hm
    refine (parse_bad s f hp _ m hm1 hs).mono ?_
    rintro e w2 ⟨rfl, hb2⟩
    go_wp2_with fail
    go_ret
    exact ⟨rfl, (hb1.trans (hb2.mono hb1.size)).alloc (Nat.le_trans hb1.size hb2.size) _⟩
  | ok ns =>
    have hpl := HF.out
    rw [hp] at hpl
    have HPL : Hid (NodesPl s ns) := Lib.hid hpl
    have hs6 := parse_is_ok hp
    clear hpl HF
    go_enter Try.func4, Try.ntmps4
    go_wp2_with (go_at_call 17; refine (alive_any _ m hm).mono ?_; rintro e w1 ⟨rfl, hb1⟩)
    have hm1 : w1.cell? ⟨0, 0, none⟩ = some (.int .i64 m) := (hb1.cell h0).trans hm
    refine (parse_ok s ns hp _ m hm1 hs).mono ?_
    rintro e w2 ⟨a, cap, rfl, hb2, hn2⟩
    have hbw := (hb1.trans (hb2.mono hb1.size)).alloc (Nat.le_trans hb1.size hb2.size) (.cells #[.int .i64 0, .int .i64 0] 25 (0, 0))
    have hnw := hn2.kept ((Below.refl _ w2).alloc (Nat.le_refl _) (.cells #[.int .i64 0, .int .i64 0] 25 (0, 0)))
    have HBW := Lib.hid hbw
    have HNW := Lib.hid hnw
    have hfc := newIn w2 (.cells #[.int .i64 0, .int .i64 0] 25 (0, 0))
    clear hb1 hb2 hn2 hbw hnw hm1 hm hp
    have fc0 : (w2.alloc (.cells #[.int .i64 0, .int .i64 0] 25 (0, 0))).cell? ⟨w2.heap.size, 0, none⟩ = some (.int .i64 0) := cellIn hfc 0 rfl
    clear hfc
    obtain ⟨hle, hcap⟩ := HNW.out.cap
    go_wp2_with fail
    generalize (w2.alloc (.cells #[.int .i64 0, .int .i64 0] 25 (0, 0))) = wb at *
    go_loopw [36] (fun i wr => ∃ k : Nat, k ≤ ns.length ∧ i = .int .i64 k ∧ Hid (Below wb.heap.size wb wr)) (fun i _ => ns.length - (intOf i).toNat)
    case atStart => exact ⟨0, by omega, rfl, Below.refl _ _⟩
    case round =>
      obtain ⟨i, hi, rfl, HB⟩ := hrel
      obtain ⟨wr0, hwr0⟩ : ∃ x, x = wr := ⟨_, rfl⟩
      subst hwr0
      by_cases hlt : i < ns.length
      · have hx := List.getElem?_eq_getElem hlt
        generalize hgx : ns[i] = x at hx
        clear hgx
        obtain ⟨b, off, av, rfl, g0, g1, g2, g3, g4, g5, hav⟩ := (HNW.out.kept HB.out).at hx
        obtain ⟨p1, p2, ⟨e, he1, he2, he3, he4, he5⟩, ⟨p, q, hp1, hp2, hp3, hp4⟩⟩ := HPL.out i x hx
        obtain ⟨name, parent, attrs, nameEnd, inF, inT⟩ := x
        simp only at *
        obtain ⟨a2, cap2, rfl, hle2, hcap2⟩ := hav.form
        unfold maxLen at hcap2
        subst he1; subst hp1; subst hp2
        obtain ⟨k, rfl⟩ : ∃ k, e = k + 1 + name.length := ⟨e - name.length - 1, by omega⟩
        have hsub : (s.drop k).take (k + 1 + name.length - k) = [60] ++ name := by
          have := he4; unfold sub at this; rw [show k + 1 + name.length - name.length - 1 = k from by omega] at this; exact this
        have HAL := Lib.hid he5
        have HAV := Lib.hid hav
        clear he4 he5 hx hav
        have q1 : decide ((i : Int) ≤ parent) = false := by simp; omega
        have q2 : decide (parent < (-1 : Int)) = false := by simp; omega
        have q3 : decide ((s.length : Int) < (k : Int) + 1 + name.length) = false := by simp; omega
        have q4 : decide ((k : Int) + 1 + name.length < (name.length : Int) + 1) = false := by simp; omega
        go_wp2_with fail
        go_quiet (fail)
        go_wp2_with fail
        have hnode : ((wr0.alloc (.cells #[.string (str name), .int .i64 parent, .slice a2 attrs.length cap2, .int .i64 ((k : Int) + 1 + (name.length : Int)), .int .i64 p, .int .i64 q] 35)).drewN nq).heap[wr0.heap.size]? = some (.cells #[.string (str name), .int .i64 parent, .slice a2 attrs.length cap2, .int .i64 ((k : Int) + 1 + (name.length : Int)), .int .i64 p, .int .i64 q] 35 (0, 0)) := newIn wr0 _
        have hbn : Below wr0.heap.size wr0 ((wr0.alloc (.cells #[.string (str name), .int .i64 parent, .slice a2 attrs.length cap2, .int .i64 ((k : Int) + 1 + (name.length : Int)), .int .i64 p, .int .i64 q] 35)).drewN nq) := below_drewN ((Below.refl _ _).alloc (Nat.le_refl _) _) _
        have HBN := Lib.hid hbn
        have HNODE := Lib.hid hnode
        clear hbn hnode g0 g1 g2 g3 g4 g5 q1 q2 q3 q4 hsub
        generalize ((wr0.alloc (.cells #[.string (str name), .int .i64 parent, .slice a2 attrs.length cap2, .int .i64 ((k : Int) + 1 + (name.length : Int)), .int .i64 p, .int .i64 q] 35)).drewN nq) = wn at *
        go_loopw [86] (fun j wx => ∃ l : Nat, l ≤ attrs.length ∧ j = .int .i64 l ∧ Hid (Below wn.heap.size wn wx)) (fun j _ => attrs.length - (intOf j).toNat)
        case atStart => exact ⟨0, by omega, rfl, Below.refl _ _⟩
        case round =>
          obtain ⟨l, hl, rfl, HBX⟩ := hrel
          by_cases hlt2 : l < attrs.length
          · have hy := List.getElem?_eq_getElem hlt2
            generalize hgy : attrs[l] = y at hy
            clear hgy
            obtain ⟨b2, off2, rfl, g0, g1, g2, g3⟩ := AttrsAt.at ((HAV.out.below HBN.out).below HBX.out) hy
            have hnx := (Kept.of_below (S := fun _ => False) HBX.out).heap id HNODE.out
            have n3 : ∀ o, (wr.alloc o).cell? ⟨wr0.heap.size, 3, none⟩ = some (.int .i64 ((k : Int) + 1 + (name.length : Int))) := fun o => cell_alloc (cellIn hnx 3 rfl) o
            obtain ⟨c, d, hc1, hc2, hc3, hc4, hc5, hc6⟩ := HAL.out y (List.mem_of_getElem? hy)
            obtain ⟨an, av, alo, ahi⟩ := y
            simp only at *
            subst hc1; subst hc2
            have hsub : (s.drop c).take (d - c) = [32] ++ an ++ [61, 34] ++ av ++ [34] := hc6
            have hlen : an.length + av.length + 4 ≤ 6000 := by
              have := congrArg List.length hsub
              simp only [List.length_take, List.length_drop, List.length_append, List.length_cons, List.length_nil] at this
              omega
            have HBY := Lib.hid (HBX.out.alloc HBX.out.size (.cells #[.string (str an), .string (str av), .int .i64 c, .int .i64 d] 41 (0, 0)))
            have q1 : decide ((c : Int) < (k : Int) + 1 + (name.length : Int)) = false := by simp; omega
            have q2 : decide ((s.length : Int) < (d : Int)) = false := by simp; omega
            have b1 : (9223372036854775807 < 1 + an.length) = False := by simp; omega
            have b2 : (9223372036854775807 < an.length + 1 + 2) = False := by simp; omega
            have b3 : (9223372036854775807 < an.length + 2 + 1 + av.length) = False := by simp; omega
            have b4 : (9223372036854775807 < an.length + (av.length + 1 + 1) + 1 + 1) = False := by simp; omega
            clear hy hnx hc6
            go_wp2_with fail
            go_quiet (fail)
            go_wp2_with fail
            go_roundw
            case rel => exact ⟨l + 1, by omega, by go_num, below_drewN HBY.out _⟩
            case measure => simp [intOf]; omega
          · have hnx := (Kept.of_below (S := fun _ => False) HBX.out).heap id HNODE.out
            have n4 : wr.cell? ⟨wr0.heap.size, 4, none⟩ = some (.int .i64 p) := cellIn hnx 4 rfl
            have n5 : wr.cell? ⟨wr0.heap.size, 5, none⟩ = some (.int .i64 q) := cellIn hnx 5 rfl
            have q1 : decide ((q : Int) < (p : Int)) = false := by simp; omega
            have q2 : decide ((s.length : Int) < (q : Int)) = false := by simp; omega
            clear hnx
            go_wp2_with fail
            go_roundw
            case rel => exact ⟨i + 1, by omega, by go_num, (HB.out.trans (HBN.out.mono HB.out.size)).trans (HBX.out.mono (Nat.le_trans HB.out.size HBN.out.size))⟩
            case measure => simp [intOf]; omega
      · go_wp2
        go_ret
        exact ⟨rfl, HBW.out.trans (HB.out.mono HBW.out.size)⟩

end Go.Proofs.Ytplbdlgmjehckaa
