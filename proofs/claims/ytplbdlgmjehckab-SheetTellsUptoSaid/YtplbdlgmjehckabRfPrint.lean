/-
  The document's answer: Print.
-/
import Derived.Test.YtplbdlgmjehckabReads
import Derived.Test.YtplbdlgmjehckabRfPlain
import Derived.Deep.DeepCutAuto
import Derived.Deep.CutBlock
import Derived.Deep.LoopGhost
namespace Go.Proofs.Ytplbdlgmjehckab
open Go.RowKit
set_option linter.unusedVariables false
set_option linter.unusedSimpArgs false

theorem rprint_len (c : Nat) : ∀ ds : List PDecl, (∀ d ∈ ds, d.name.length + d.val.length ≤ c) → (sPrint ds).length ≤ ds.length * (c + 15)
  | [], _ => by simp [sPrint]
  | [d], h => by
    have h1 : (printOne d).length ≤ d.name.length + d.val.length + 13 := by unfold printOne; split <;> simp [importantWord] <;> omega
    have := h d (by simp); simp [sPrint]; omega
  | d :: e :: ds, h => by
    have h1 : (printOne d).length ≤ d.name.length + d.val.length + 13 := by unfold printOne; split <;> simp [importantWord] <;> omega
    have h2 := h d (by simp)
    have h3 := rprint_len c (e :: ds) (fun x hx => h x (by simp [hx]))
    simp only [sPrint, List.length_append, List.length_cons, List.length_nil] at h3 ⊢
    rw [Nat.add_one_mul (ds.length + 1)]
    omega

set_option maxRecDepth 100000 in
set_option maxHeartbeats 3200000 in
theorem rprint_any (w : World) (v : Value) (ds : List PDecl) (h : DeclsAt w v ds) (hN : ds.length ≤ 4000000) (hone : ∀ d ∈ ds, d.name.length + d.val.length ≤ 4000000) :
    Calls Try.prog 16 #[v] w fun e w' => e = .returned (.string (str (sPrint ds))) ∧ Kept (fun _ => False) w w' := by
  obtain ⟨av, cv, rfl, hcv1, hcv2⟩ := h.form
  unfold maxLen at hcv2
  have H := Lib.hid h
  have HONE := Lib.hid hone
  clear h hone
  go_enter Try.func16, Try.ntmps16
  go_upto_block 0 with fail
  go_cut [3] (fun sv wx => sv = .string (str (sPrint ds)) ∧ Hid (Kept (fun _ => False) w wx))
  case first =>
    go_wp2_with fail
    go_loopw [3, 8] (fun sv c wr => ∃ (i : Nat) (P : B), i ≤ ds.length ∧ c = .int .i64 (i : Int) ∧ sv = .string (str P) ∧ Hid (P = sPrint (ds.take i)) ∧ Hid (Kept (fun _ => False) w wr)) (fun _ c _ => ds.length - (intOf c).toNat)
    case atStart => exact ⟨0, [], by omega, rfl, rfl, Lib.hid (by simp [sPrint]), Lib.hid (Kept.refl _ _)⟩
    case round =>
      obtain ⟨i, P, hi, rfl, rfl, HP, HK⟩ := hrel
      by_cases hlt : i < ds.length
      · have hx := List.getElem?_eq_getElem hlt
        generalize hgx : ds[i] = x at hx
        clear hgx
        obtain ⟨b, off, rfl, g0, g1, g2⟩ := DeclsAt.at (decls_firm _ _ _ _ H.out HK.out.below) hx
        have hxl := HONE.out x (List.mem_of_getElem? hx)
        have hPl : P.length ≤ 40000000000000 := by
          rw [HP.out]
          have h1 := rprint_len 4000000 (ds.take i) (fun d hd => HONE.out d (List.mem_of_mem_take hd))
          have h2 : (ds.take i).length ≤ 4000000 := by rw [List.length_take]; omega
          have h3 := Nat.mul_le_mul_right (4000000 + 15) h2
          omega
        have ht : ds.take (i + 1) = ds.take i ++ [x] := by rw [List.take_add_one, hx]; rfl
        have HPN : Hid ((if i = 0 then [] else P ++ [59, 32]) ++ printOne x = sPrint (ds.take (i + 1))) := Lib.hid (by
          rw [ht, sPrint_snoc, HP.out]
          by_cases h0 : i = 0
          · subst h0; simp
          · rw [if_neg h0, if_neg (by intro hh; have := congrArg List.length hh; rw [List.length_take, List.length_nil, Nat.min_eq_left hi] at this; exact h0 this)])
        obtain ⟨nm, vl, st⟩ := x
        simp only at *
        have hnl : nm.length ≤ 4000000 := by omega
        have hvl : vl.length ≤ 4000000 := by omega
        obtain ⟨wa, HWA⟩ : ∃ x', Hid (wr.alloc (.cells #[.string (str nm), .string (str vl), .bool st] 62 (0,0)) = x') := ⟨_, Lib.hid rfl⟩
        obtain ⟨nb, HNB⟩ : ∃ x', Hid (wr.heap.size = x') := ⟨_, Lib.hid rfl⟩
        have hn : wa.heap[nb]? = some (.cells #[.string (str nm), .string (str vl), .bool st] 62 (0,0)) := by rw [← HWA.out, ← HNB.out]; exact newIn wr _
        have HKA : Hid (Kept (fun _ => False) w wa) := Lib.hid (by rw [← HWA.out]; exact HK.out.alloc _)
        have n0 : wa.cell? ⟨nb, 0, none⟩ = some (.string (str nm)) := cellIn hn 0 rfl
        have n1 : wa.cell? ⟨nb, 1, none⟩ = some (.string (str vl)) := cellIn hn 1 rfl
        have n2 : wa.cell? ⟨nb, 2, none⟩ = some (.bool st) := cellIn hn 2 rfl
        clear hn hx
        go_upto_region 5 with fail
        rw [HWA.out, HNB.out]
        clear g0 g1 g2 HWA HNB
        obtain ⟨xb, HXB⟩ : ∃ q, Hid (decide (0 < i) = q) := ⟨_, Lib.hid rfl⟩
        go_upto_if 14 with fail
        rw [HXB.out]
        go_cut [3] (fun sv wx => wx = wa ∧ ∃ Q : B, sv = .string (str Q) ∧ Q.length ≤ 40000000000002 ∧ Hid (Q ++ printOne ⟨nm, vl, st⟩ = sPrint (ds.take (i + 1))))
        case first =>
          cases xb with
          | false =>
            have HPN2 : Hid (P ++ printOne ⟨nm, vl, st⟩ = sPrint (ds.take (i + 1))) := Lib.hid (by
              have h0 : i = 0 := by have := HXB.out; simp at this; omega
              have := HPN.out
              rw [if_pos h0] at this
              rw [← this, HP.out, h0]; simp [sPrint])
            go_wp2_with fail
            go_meet
            case rel => exact ⟨rfl, P, rfl, by omega, HPN2⟩
          | true =>
            have HPN2 : Hid ((P ++ [59, 32]) ++ printOne ⟨nm, vl, st⟩ = sPrint (ds.take (i + 1))) := Lib.hid (by
              have h0 : ¬ i = 0 := by have := HXB.out; simp at this; omega
              have := HPN.out
              rw [if_neg h0] at this
              exact this)
            go_wp2_with fail
            go_meet
            case rel => exact ⟨rfl, P ++ [59, 32], rfl, by simp; omega, HPN2⟩
        case rest =>
          obtain ⟨rfl, Q, rfl, hQ, HQ⟩ := hcut
          obtain ⟨wq, hwq⟩ : ∃ x, x = wc := ⟨_, rfl⟩
          subst hwq
          cases st with
          | false =>
            go_wp2_with fail
            go_roundw
            case measure => simp [intOf]; omega
            case rel => exact ⟨i + 1, Q ++ nm ++ [58, 32] ++ vl, by omega, by go_num, by simp, Lib.hid (by rw [← HQ.out]; simp [printOne]), HKA⟩
          | true =>
            go_wp2_with fail
            go_roundw
            case measure => simp [intOf]; omega
            case rel => exact ⟨i + 1, Q ++ nm ++ [58, 32] ++ vl ++ [32, 33] ++ importantWord, by omega, by go_num, by simp [importantWord], Lib.hid (by rw [← HQ.out]; simp [printOne]), HKA⟩
      · obtain rfl : i = ds.length := by omega
        go_wp2_with fail
        go_meet
        case rel => exact ⟨by rw [HP.out, List.take_length], HK⟩
  case rest =>
    obtain ⟨rfl, HK⟩ := hcut
    go_wp2_with fail
    go_ret
    exact ⟨rfl, HK.out⟩
end Go.Proofs.Ytplbdlgmjehckab
