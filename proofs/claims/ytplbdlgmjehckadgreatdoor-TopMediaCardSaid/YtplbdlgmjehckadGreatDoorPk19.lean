/-
  Lemmas for the claims of this seat: the program's functions walked, and plain laws. In this order: FoOwn FoSort FoFoldM PgWalk.
-/
import Derived.Test.YtplbdlgmjehckadGreatDoorPk14
import Derived.Test.YtplbdlgmjehckadGreatDoorPk5
import Derived.Deep.RegionHeld3
import Derived.Deep.Onto
import Derived.Test.YtplbdlgmjehckadGreatDoorPk18
import Derived.Test.YtplbdlgmjehckadGreatDoorPk13
import Derived.Test.YtplbdlgmjehckadGreatDoorPk7
import Derived.Test.YtplbdlgmjehckadGreatDoorPk9
import Derived.Test.YtplbdlgmjehckadGreatDoorPk1
import Derived.Deep.DeepCutAuto
import Derived.Deep.CutBlock
import Derived.Deep.Light
namespace Go.Proofs.YtplbdlgmjehckadGreatDoor
open Go.RowKit
set_option linter.unusedVariables false
set_option linter.unusedSimpArgs false
def editV (e : PEdit) : Value := .agg #[.int .i64 (e.lo : Int), .int .i64 (e.hi : Int), .string (str e.text)]
def OwnEnds (w : World) (r : Option PEdit) (e : Ending) (w' : World) : Prop :=
  (match r with
    | none => e = .returned (.tuple #[.agg #[.int .i64 0, .int .i64 0, .string ⟨#[]⟩], .bool false])
    | some x => e = .returned (.tuple #[editV x, .bool true])) ∧ Kept (fun _ => False) w w'
def ownTo (al : List PAttr) (p : Int × Int) (i : Nat) : Int × Int := (al.take i).foldl (fun p a => if a.name = styleName then (a.lo, a.hi) else p) p
theorem ownTo_step {al : List PAttr} {p : Int × Int} {i : Nat} {a : PAttr} (h : al[i]? = some a) : ownTo al p (i + 1) = if a.name = styleName then (a.lo, a.hi) else ownTo al p i := by
  unfold ownTo
  rw [List.take_add_one, h, Option.toList_some, List.foldl_append]; rfl
theorem ownTo_pos {al : List PAttr} {p : Int × Int} (hp : 0 ≤ p.1 ∧ 0 ≤ p.2) (ha : ∀ a ∈ al, 0 ≤ a.lo ∧ 0 ≤ a.hi) : ∀ i, 0 ≤ (ownTo al p i).1 ∧ 0 ≤ (ownTo al p i).2 := by
  intro i
  induction i with
  | zero => exact hp
  | succ i ih =>
    cases hx : al[i]? with
    | none =>
      unfold ownTo at ih ⊢
      rw [List.take_add_one, hx]; simpa using ih
    | some a =>
      rw [ownTo_step hx]
      split
      · exact ha a (List.mem_of_getElem? hx)
      · exact ih
set_option maxRecDepth 100000 in
set_option maxHeartbeats 3200000 in
theorem own_any (ns : List PNode) (k : Nat) (n : PNode) (text : B) (hn : ns[k]? = some n) (hlen : ns.length ≤ 1048576) (htx : text.length ≤ 1048576) (hne : 0 ≤ n.nameEnd) (hat : ∀ a ∈ n.attrs, 0 ≤ a.lo ∧ 0 ≤ a.hi) (w : World) (v : Value) (hv : NodesAt w v ns) :
    Calls Tryz.prog 14 #[v, .int .i64 (k : Int), .string (str text)] w (OwnEnds w (fOwn n text)) := by
  obtain ⟨R, HR⟩ : ∃ R, Hid (fOwn n text = R) := ⟨_, rfl⟩
  rw [HR.out]
  obtain ⟨na, ncap, rfl, hnc1, hnc2⟩ := hv.form
  unfold maxLen at hnc2
  have hkl : k < ns.length := (List.getElem?_eq_some_iff.1 hn).1
  obtain ⟨nb, noff, av, rfl, g0, g1, g2, g3, g4, g5, hav⟩ := hv.at hn
  have HV := Lib.hid hv
  have HAV := Lib.hid hav
  have HAT := Lib.hid hat
  clear hv hav hat hn
  go_enter Tryz.func14, Tryz.ntmps14
  go_upto_region 1 with fail
  obtain ⟨wa, HWA⟩ : ∃ x, Hid (w.alloc (.cells #[.int .i64 0, .int .i64 0, .string ⟨#[]⟩] 51 (0, 0)) = x) := ⟨_, rfl⟩
  have hka : Kept (fun _ => False) w wa := by rw [← HWA.out]; exact (Kept.refl _ w).alloc _
  have hea : wa.heap[w.heap.size]? = some (.cells #[.int .i64 0, .int .i64 0, .string ⟨#[]⟩] 51 (0, 0)) := by rw [← HWA.out]; exact newIn w _
  have hsa : wa.heap.size = w.heap.size + 1 := by rw [← HWA.out]; simp
  have HKA := Lib.hid hka
  have HEA := Lib.hid hea
  have n3 : wa.cell? ⟨nb, noff + k * 6 + 3, none⟩ = some (.int .i64 n.nameEnd) := hka.cell id g3
  have n3o : ∀ o, (wa.alloc o).cell? ⟨nb, noff + k * 6 + 3, none⟩ = some (.int .i64 n.nameEnd) := fun o => cell_alloc n3 o
  rw [HWA.out]
  clear hka hea
  go_region
  obtain ⟨wb, HWB⟩ : ∃ x, Hid ((wa.alloc (.cells #[.int .i64 n.nameEnd, .int .i64 n.nameEnd] 47 (0, 0))).drew = x) := ⟨_, rfl⟩
  have hkb : Kept (fun _ => False) wa wb := by rw [← HWB.out]; exact ((Kept.refl _ wa).alloc _).drew
  have hsb : wb.heap[w.heap.size + 1]? = some (.cells #[.int .i64 n.nameEnd, .int .i64 n.nameEnd] 47 (0, 0)) := by
    rw [← HWB.out, ← hsa]; exact newIn wa _
  have HKB := Lib.hid (HKA.out.trans hkb)
  have HEB := Lib.hid (hkb.heap id HEA.out)
  have HSB := Lib.hid hsb
  have b0 := HKB.out.cell id g0
  have b1 := HKB.out.cell id g1
  have b2 := HKB.out.cell id g2
  have b3 := HKB.out.cell id g3
  have b4 := HKB.out.cell id g4
  have b5 := HKB.out.cell id g5
  rw [HWB.out]
  have HAVB : Hid (AttrsAt wb av n.attrs) := Lib.hid (HAV.out.below HKB.out.below)
  obtain ⟨aa, acap, rfl, hac1, hac2⟩ := HAV.out.form
  unfold maxLen at hac2
  clear hkb hsb n3 n3o g0 g1 g2 g3 g4 g5
  obtain ⟨G, HG⟩ : ∃ G, Hid (pGet n.attrs styleName = G) := ⟨_, rfl⟩
  obtain ⟨old, had⟩ := G
  have HCG : Hid (Calls Tryz.prog 13 #[.agg #[.string (str n.name), .int .i64 n.parent, .slice aa n.attrs.length acap, .int .i64 n.nameEnd, .int .i64 n.inF, .int .i64 n.inT], .string (str styleName)] wb fun e w' => e = .returned (.tuple #[.string (str old), .bool had]) ∧ Below wb.heap.size wb w') := Lib.hid (by
    have := get_any wb _ n styleName HAVB.out
    unfold GetEnds at this
    rw [HG.out] at this
    exact this)
  go_wp2_with fail
  refine HCG.out.mono ?_
  rintro e w2 ⟨rfl, hb2⟩
  have hk2 : Kept (fun _ => False) wb w2 := Kept.of_below hb2
  have HK2 := Lib.hid (HKB.out.trans hk2)
  have d2 := hk2.cell id b2
  have HE2 := Lib.hid (hk2.heap id HEB.out)
  have HS2 := Lib.hid (hk2.heap id HSB.out)
  have HAV2 : Hid (AttrsAt w2 (.slice aa n.attrs.length acap) n.attrs) := Lib.hid (HAV.out.below HK2.out.below)
  clear b0 b1 b2 b3 b4 b5 hk2 hb2
  obtain ⟨al, HAL⟩ : ∃ al, Hid (n.attrs = al) := ⟨_, rfl⟩
  rw [HAL.out] at d2 HAV2 hac1
  rw [HAL.out]
  obtain ⟨p0, HP0⟩ : ∃ p : Int × Int, Hid ((n.nameEnd, n.nameEnd) = p) := ⟨_, rfl⟩
  have HPOS : Hid (∀ i, 0 ≤ (ownTo al p0 i).1 ∧ 0 ≤ (ownTo al p0 i).2) := Lib.hid (ownTo_pos (by rw [← HP0.out]; exact ⟨hne, hne⟩) (by rw [← HAL.out]; exact HAT.out))
  have HAVW : Hid (AttrsAt w (.slice aa al.length acap) al) := Lib.hid (by rw [← HAL.out]; exact HAV.out)
  clear HAV HAVB HCG
  go_upto_block 0 with fail
  go_cut [] (fun wx => Hid (Kept (· = w.heap.size + 1) w2 wx) ∧ Hid (wx.heap[w.heap.size + 1]? = some (.cells #[.int .i64 (ownTo al p0 al.length).1, .int .i64 (ownTo al p0 al.length).2] 47 (0, 0))))
  case first =>
    go_wp2_with fail
    go_loopw [38] (fun c wr => ∃ i : Nat, i ≤ al.length ∧ c = .int .i64 (i : Int) ∧ Hid (Kept (· = w.heap.size + 1) w2 wr) ∧ Hid (wr.heap[w.heap.size + 1]? = some (.cells #[.int .i64 (ownTo al p0 i).1, .int .i64 (ownTo al p0 i).2] 47 (0, 0)))) (fun c _ => al.length - (intOf c).toNat)
    case atStart => exact ⟨0, by omega, rfl, Lib.hid (Kept.refl _ _), Lib.hid (by rw [show ownTo al p0 0 = p0 from rfl, ← HP0.out]; exact HS2.out)⟩
    case round =>
      obtain ⟨i, hi, rfl, HK, HS⟩ := hrel
      obtain ⟨wr0, hwr0⟩ : ∃ x, x = wr := ⟨_, rfl⟩
      subst hwr0
      by_cases hlt : i < al.length
      · have hx := List.getElem?_eq_getElem hlt
        generalize hgx : al[i] = x at hx
        clear hgx
        have HST := Lib.hid (ownTo_step (p := p0) hx)
        have HKW : Hid (Kept (fun _ => False) w wr0) := Lib.hid (HK2.out.trans' HK.out (fun q hq e => by omega))
        obtain ⟨b, off, rfl, e0, e1, e2, e3⟩ := AttrsAt.at (HAVW.out.below HKW.out.below) hx
        have s0 : ∀ o, (wr0.alloc o).cell? ⟨w.heap.size + 1, 0, none⟩ = some (.int .i64 (ownTo al p0 i).1) := fun o => cell_alloc (cellIn HS.out 0 rfl) o
        have s1 : ∀ o, (wr0.alloc o).cell? ⟨w.heap.size + 1, 1, none⟩ = some (.int .i64 (ownTo al p0 i).2) := fun o => cell_alloc (cellIn HS.out 1 rfl) o
        have f0 : ∀ o, (wr0.alloc o).frozen? ⟨w.heap.size + 1, 0, none⟩ = false := fun o => frozen_alloc' (by have := ltIn HS.out; exact this) (freeIn HS.out 0) o
        have f1 : ∀ o, (wr0.alloc o).frozen? ⟨w.heap.size + 1, 1, none⟩ = false := fun o => frozen_alloc' (by have := ltIn HS.out; exact this) (freeIn HS.out 1) o
        have HKo : ∀ o, Hid (Kept (· = w.heap.size + 1) w2 (wr0.alloc o)) := fun o => Lib.hid (HK.out.alloc o)
        have HSo : ∀ o, Hid ((wr0.alloc o).heap[w.heap.size + 1]? = some (.cells #[.int .i64 (ownTo al p0 i).1, .int .i64 (ownTo al p0 i).2] 47 (0, 0))) := fun o => Lib.hid (oldIn HS.out o)
        clear hx
        by_cases hc : x.name = styleName
        · have hcb : (x.name == styleName) = true := by simpa using hc
          have HST1 : Hid (ownTo al p0 (i + 1) = (x.lo, x.hi)) := Lib.hid (by rw [HST.out, if_pos hc])
          unfold styleName at hcb
          clear hc
          go_wp2_with fail
          go_roundw
          case measure => simp [intOf]; omega
          case rel =>
            refine ⟨i + 1, by omega, by go_num, Lib.hid (((HKo _).out.setCell (.inl rfl) _).setCell (.inl rfl) _), Lib.hid ?_⟩
            rw [HST1.out]
            have := setIn (setIn (HSo (.cells #[.string (str x.name), .string (str x.val), .int .i64 x.lo, .int .i64 x.hi] 77 (0, 0))).out 0 (.int .i64 x.lo)) 1 (.int .i64 x.hi)
            exact this
        · have hcb : (x.name == styleName) = false := by simpa using hc
          have HST1 : Hid (ownTo al p0 (i + 1) = ownTo al p0 i) := Lib.hid (by rw [HST.out, if_neg hc])
          unfold styleName at hcb
          clear hc
          go_wp2_with fail
          go_roundw
          case measure => simp [intOf]; omega
          case rel => exact ⟨i + 1, by omega, by go_num, HKo _, Lib.hid (by rw [HST1.out]; exact (HSo _).out)⟩
      · obtain rfl : i = al.length := by omega
        go_wp2_with fail
        go_meet
        case rel => exact ⟨HK, HS⟩
  case rest =>
    obtain ⟨HK, HS⟩ := hcut
    have HKW : Hid (Kept (fun _ => False) w wc) := Lib.hid (HK2.out.trans' HK.out (fun q hq e => by omega))
    have hp := HPOS.out al.length
    obtain ⟨lo, hlo⟩ : ∃ lo : Nat, (ownTo al p0 al.length).1 = lo := ⟨_, (Int.toNat_of_nonneg hp.1).symm⟩
    obtain ⟨hi, hhi⟩ : ∃ hi : Nat, (ownTo al p0 al.length).2 = hi := ⟨_, (Int.toNat_of_nonneg hp.2).symm⟩
    have HRR : Hid ((if had = true ∧ old = text ∨ had = false ∧ text = [] then none else some (⟨lo, hi, if text = [] then [] else styleHead ++ text ++ [34]⟩ : PEdit)) = R) := Lib.hid (by
      rw [← HR.out]
      have ha : ownAt n = ownTo al p0 al.length := by
        unfold ownAt ownTo
        rw [List.take_length, HAL.out, HP0.out]
      unfold fOwn
      rw [ha, HG.out, hlo, hhi, Int.toNat_natCast, Int.toNat_natCast])
    rw [hlo, hhi] at HS
    have HE : Hid (wc.heap[w.heap.size]? = some (.cells #[.int .i64 0, .int .i64 0, .string ⟨#[]⟩] 51 (0, 0))) := Lib.hid (HK.out.heap (by omega) HE2.out)
    have s0 : wc.cell? ⟨w.heap.size + 1, 0, none⟩ = some (.int .i64 (lo : Int)) := cellIn HS.out 0 rfl
    have s1 : wc.cell? ⟨w.heap.size + 1, 1, none⟩ = some (.int .i64 (hi : Int)) := cellIn HS.out 1 rfl
    have t0 : wc.cell? ⟨w.heap.size, 0, none⟩ = some (.int .i64 0) := cellIn HE.out 0 rfl
    have t1 : wc.cell? ⟨w.heap.size, 1, none⟩ = some (.int .i64 0) := cellIn HE.out 1 rfl
    have t2 : wc.cell? ⟨w.heap.size, 2, none⟩ = some (.string ⟨#[]⟩) := cellIn HE.out 2 rfl
    have f0 : wc.frozen? ⟨w.heap.size, 0, none⟩ = false := freeIn HE.out 0
    have f1 : wc.frozen? ⟨w.heap.size, 1, none⟩ = false := freeIn HE.out 1
    have f2 : wc.frozen? ⟨w.heap.size, 2, none⟩ = false := freeIn HE.out 2
    have HFIN : Hid (∀ x y z, (((wc.setCell ⟨w.heap.size, 0, none⟩ x).setCell ⟨w.heap.size, 1, none⟩ y).setCell ⟨w.heap.size, 2, none⟩ z).heap[w.heap.size]? = some (.cells #[x, y, z] 51 (0, 0)) ∧ Kept (fun _ => False) w (((wc.setCell ⟨w.heap.size, 0, none⟩ x).setCell ⟨w.heap.size, 1, none⟩ y).setCell ⟨w.heap.size, 2, none⟩ z)) := Lib.hid (fun x y z => by
      refine ⟨?_, ((HKW.out.setCell (.inr (Nat.le_refl _)) _).setCell (.inr (Nat.le_refl _)) _).setCell (.inr (Nat.le_refl _)) _⟩
      have := setIn (setIn (setIn HE.out 0 x) 1 y) 2 z
      exact this)
    have fin : ∀ (x y z : Value) (q : Bool) (wf : World), wf = (((wc.setCell ⟨w.heap.size, 0, none⟩ x).setCell ⟨w.heap.size, 1, none⟩ y).setCell ⟨w.heap.size, 2, none⟩ z) → wf.cell? ⟨w.heap.size, 0, none⟩ = some x ∧ wf.cell? ⟨w.heap.size, 1, none⟩ = some y ∧ wf.cell? ⟨w.heap.size, 2, none⟩ = some z := fun x y z q wf e => by
      have := (HFIN.out x y z).1
      rw [← e] at this
      exact ⟨cellIn this 0 rfl, cellIn this 1 rfl, cellIn this 2 rfl⟩
    have HFIN2 := Lib.hid fin
    clear fin
    have hnone : R = none → OwnEnds w R (.returned (.tuple #[.agg #[.int .i64 0, .int .i64 0, .string ⟨#[]⟩], .bool false])) (((wc.setCell ⟨w.heap.size, 0, none⟩ (.int .i64 0)).setCell ⟨w.heap.size, 1, none⟩ (.int .i64 0)).setCell ⟨w.heap.size, 2, none⟩ (.string ⟨#[]⟩)) := fun h => by
      rw [h]; exact ⟨rfl, (HFIN.out _ _ _).2⟩
    have hsome : ∀ tx : B, R = some ⟨lo, hi, tx⟩ → OwnEnds w R (.returned (.tuple #[.agg #[.int .i64 (lo : Int), .int .i64 (hi : Int), .string (str tx)], .bool true])) (((wc.setCell ⟨w.heap.size, 0, none⟩ (.int .i64 (lo : Int))).setCell ⟨w.heap.size, 1, none⟩ (.int .i64 (hi : Int))).setCell ⟨w.heap.size, 2, none⟩ (.string (str tx))) := fun tx h => by
      rw [h]; exact ⟨rfl, (HFIN.out _ _ _).2⟩
    have HNONE := Lib.hid hnone
    have HSOME := Lib.hid hsome
    have hcat : (9223372036854775807 < 8 + text.length) = False := by simp; omega
    have hcat2 : (9223372036854775807 < 8 + text.length + 1) = False := by simp; omega
    clear hnone hsome
    cases had with
    | true =>
      cases hot : (old == text) with
      | true =>
        have hr : Hid (R = none) := Lib.hid (by rw [← HRR.out, if_pos (.inl ⟨rfl, by simpa using hot⟩)])
        go_wp2_with fail
        obtain ⟨q0, q1, q2⟩ := HFIN2.out (.int .i64 0) (.int .i64 0) (.string ⟨#[]⟩) true _ rfl
        refine bodyPost_ret (v := .tuple #[.agg #[.int .i64 0, .int .i64 0, .string ⟨#[]⟩], .bool false]) (by simp [results, Tryz.results14, go_sem, q0, q1, q2]) rfl ?_
        exact HNONE.out hr.out
      | false =>
        cases hte : text.isEmpty with
        | true =>
          obtain rfl : text = [] := by simpa using hte
          have hr : Hid (R = some ⟨lo, hi, []⟩) := Lib.hid (by
            rw [← HRR.out, if_neg (by simp at hot ⊢; exact hot), if_pos rfl])
          go_wp2_with fail
          obtain ⟨q0, q1, q2⟩ := HFIN2.out (.int .i64 (lo : Int)) (.int .i64 (hi : Int)) (.string ⟨#[]⟩) true _ rfl
          refine bodyPost_ret (v := .tuple #[.agg #[.int .i64 (lo : Int), .int .i64 (hi : Int), (.string ⟨#[]⟩)], .bool true]) (by simp [results, Tryz.results14, go_sem, q0, q1, q2]) rfl ?_
          exact HSOME.out _ hr.out
        | false =>
          have hteq : (text == []) = false := by cases text with
            | nil => cases hte
            | cons c t => rfl
          have hne2 : ¬ text = [] := fun h => by rw [h] at hte; cases hte
          have hr : Hid (R = some ⟨lo, hi, 32 :: 115 :: 116 :: 121 :: 108 :: 101 :: 61 :: 34 :: (text ++ [34])⟩) := Lib.hid (by
            rw [← HRR.out, if_neg (by simp at hot ⊢; exact hot), if_neg hne2]; rfl)
          clear hte hne2
          go_wp2_with fail
          obtain ⟨q0, q1, q2⟩ := HFIN2.out (.int .i64 (lo : Int)) (.int .i64 (hi : Int)) (.string (str (32 :: 115 :: 116 :: 121 :: 108 :: 101 :: 61 :: 34 :: (text ++ [34])))) true _ rfl
          have HF := HSOME.out _ hr.out
          revert q0 q1 q2 HF
          generalize (((wc.setCell ⟨w.heap.size, 0, none⟩ (.int .i64 (lo : Int))).setCell ⟨w.heap.size, 1, none⟩ (.int .i64 (hi : Int))).setCell ⟨w.heap.size, 2, none⟩ (.string (str (32 :: 115 :: 116 :: 121 :: 108 :: 101 :: 61 :: 34 :: (text ++ [34]))))) = wf
          generalize str (32 :: 115 :: 116 :: 121 :: 108 :: 101 :: 61 :: 34 :: (text ++ [34])) = tx
          intro q0 q1 q2 HF
          refine bodyPost_ret (v := .tuple #[.agg #[.int .i64 (lo : Int), .int .i64 (hi : Int), .string tx], .bool true]) (by simp [results, Tryz.results14, go_sem, q0, q1, q2]) rfl ?_
          exact HF
    | false =>
      cases hte : text.isEmpty with
      | true =>
        obtain rfl : text = [] := by simpa using hte
        have hr : Hid (R = none) := Lib.hid (by rw [← HRR.out, if_pos (.inr ⟨rfl, rfl⟩)])
        go_wp2_with fail
        obtain ⟨q0, q1, q2⟩ := HFIN2.out (.int .i64 0) (.int .i64 0) (.string ⟨#[]⟩) true _ rfl
        refine bodyPost_ret (v := .tuple #[.agg #[.int .i64 0, .int .i64 0, .string ⟨#[]⟩], .bool false]) (by simp [results, Tryz.results14, go_sem, q0, q1, q2]) rfl ?_
        exact HNONE.out hr.out
      | false =>
        have hteq : (text == []) = false := by cases text with
          | nil => cases hte
          | cons c t => rfl
        have hne2 : ¬ text = [] := fun h => by rw [h] at hte; cases hte
        have hr : Hid (R = some ⟨lo, hi, 32 :: 115 :: 116 :: 121 :: 108 :: 101 :: 61 :: 34 :: (text ++ [34])⟩) := Lib.hid (by
          rw [← HRR.out, if_neg (by simp; exact hne2), if_neg hne2]; rfl)
        clear hte hne2
        go_wp2_with fail
        obtain ⟨q0, q1, q2⟩ := HFIN2.out (.int .i64 (lo : Int)) (.int .i64 (hi : Int)) (.string (str (32 :: 115 :: 116 :: 121 :: 108 :: 101 :: 61 :: 34 :: (text ++ [34])))) true _ rfl
        have HF := HSOME.out _ hr.out
        revert q0 q1 q2 HF
        generalize (((wc.setCell ⟨w.heap.size, 0, none⟩ (.int .i64 (lo : Int))).setCell ⟨w.heap.size, 1, none⟩ (.int .i64 (hi : Int))).setCell ⟨w.heap.size, 2, none⟩ (.string (str (32 :: 115 :: 116 :: 121 :: 108 :: 101 :: 61 :: 34 :: (text ++ [34]))))) = wf
        generalize str (32 :: 115 :: 116 :: 121 :: 108 :: 101 :: 61 :: 34 :: (text ++ [34])) = tx
        intro q0 q1 q2 HF
        refine bodyPost_ret (v := .tuple #[.agg #[.int .i64 (lo : Int), .int .i64 (hi : Int), .string tx], .bool true]) (by simp [results, Tryz.results14, go_sem, q0, q1, q2]) rfl ?_
        exact HF
end Go.Proofs.YtplbdlgmjehckadGreatDoor

namespace Go.Proofs.YtplbdlgmjehckadGreatDoor
open Go.RowKit
set_option linter.unusedVariables false
set_option linter.unusedSimpArgs false
structure SEd where
  e : PEdit
  h : e.lo ≤ 1048576
def seCells (x : SEd) : List Value := [.int .i64 (x.e.lo : Int), .int .i64 (x.e.hi : Int), .string (str x.e.text)]
def cmpE (x y : SEd) : Int := (x.e.lo : Int) - (y.e.lo : Int)
instance : Inhabited SEd := ⟨⟨⟨0, 0, []⟩, Nat.zero_le _⟩⟩
section
open Go.Shelf Go.Lib Go.Sort
theorem edit_closure (x y : SEd) (w : World) : Calls Tryz.prog 16 #[.agg (seCells x).toArray, .agg (seCells y).toArray] w fun e w' => e = .returned (.int .i64 (cmpE x y)) ∧ ∃ q os', w' = grow (w.drewN q) os' := by
  have h1 := x.h
  have h2 := y.h
  show Calls Tryz.prog 16 #[.agg #[.int .i64 (x.e.lo : Int), .int .i64 (x.e.hi : Int), .string (str x.e.text)], .agg #[.int .i64 (y.e.lo : Int), .int .i64 (y.e.hi : Int), .string (str y.e.text)]] w fun e w' => e = .returned (.int .i64 ((x.e.lo : Int) - (y.e.lo : Int))) ∧ ∃ q os', w' = grow (w.drewN q) os'
  generalize x.e.lo = a at *
  generalize y.e.lo = b at *
  generalize x.e.hi = a2
  generalize y.e.hi = b2
  generalize x.e.text = a3
  generalize y.e.text = b3
  have hw : IntKind.i64.wrap ((a : Int) - (b : Int)) = (a : Int) - (b : Int) := by rw [IntKind.wrap_i64]; omega
  go_enter Tryz.func16, Tryz.ntmps16
  go_wp2_with fail
  go_ret
  exact ⟨rfl, 0, _, by rw [alloc_eq_grow, alloc_eq_grow, grow_grow]; rfl⟩
theorem edit_lt (x y : SEd) : ltOf cmpE x y = decide (x.e.lo < y.e.lo) := by
  unfold ltOf cmpE
  by_cases h : x.e.lo < y.e.lo
  · simp [h]; omega
  · simp [h]; omega
theorem edit_swo : SWO (ltOf cmpE) where
  irrefl x := by rw [edit_lt]; simp
  trans x y z h1 h2 := by rw [edit_lt] at *; simp at *; omega
  ntrans x y z h1 h2 := by rw [edit_lt] at *; simp at *; omega
theorem edit_lays (blk off size : Nat) (w : World) : CmpLays Tryz.prog 16 #[] seCells 3 cmpE blk off size w := fun _ _ _ _ x y => edit_closure x y _
set_option maxRecDepth 100000 in
set_option maxHeartbeats 2000000 in
theorem sortEdit_some (blk off cap : Nat) (d : Array SEd) (w : World) (hH : HoldsK seCells 3 w blk off d) (hblk : blk < w.heap.size) (hsz : d.size < 4611686018427387904) :
    Calls Tryz.prog 15 #[.slice (some ⟨blk, off, none⟩) d.size cap, .func (.func 16) #[] #[]] w fun e w' => e = .returned (.tuple #[]) ∧
      ∃ d' n os, PermIn 0 d.size d d' ∧ SortedIn (ltOf cmpE) 0 d.size d' ∧ w' = sortWorldK seCells 3 w blk off n d' os := by
  have eg : ∀ args w, (callFunc 16 args).run Tryz.prog w = .ok (.enter 16 args) w := enters_of Tryz.func16 (by kernel_rfl) rfl
  have hlim : Lib.bitLen d.size < 4611686018427387904 := Nat.lt_of_le_of_lt (Lib.bitLen_le d.size 62 (by omega) (by omega)) (by omega)
  have hp := AnyQ.pdqsortCmpFunc_all Tryz.pdq33 3 Tryz.isAgg51 Tryz.sizeOf51 seCells (cmpE) 16 #[] edit_swo blk off cap d w eg (edit_lays blk off d.size w)
    ⟨fun _ => rfl, fun x v hv => by simp [seCells] at hv; rcases hv with rfl | rfl | rfl <;> rfl, hH, hblk⟩ (d.size + 1) 0 d.size (Lib.bitLen d.size) d w (by omega) rfl (SWK.start hH) (Nat.zero_le _) (Nat.le_refl _) hsz hlim (Or.inl rfl)
  have hs := pdq_sorts (ltOf cmpE) edit_swo d 0 d.size (Lib.bitLen d.size) true true (Nat.zero_le _) (Nat.le_refl _) (Or.inl rfl)
  change Calls Tryz.prog 33 _ _ _ at hp
  rw [show (((0 : Nat)) : Int) = 0 from rfl] at hp
  have hl := Tryz.bits_Len (d.size : Int) w (by omega) (by omega)
  rw [Int.toNat_natCast] at hl
  have wr : IntKind.u64.wrap (d.size : Int) = d.size := by simp [IntKind.wrap, IntKind.bits, IntKind.signed]; omega
  generalize pdq (ltOf cmpE) d 0 d.size (Lib.bitLen d.size) true true = dz at *
  clear hH
  have HS := Lib.hid hs
  clear hs
  go_enter Tryz.func15, Tryz.ntmps15
  go_wp2_with (first | (go_at_call 34; refine hl.mono ?_; rintro e w' ⟨rfl, rfl⟩) | (go_at_call 33; refine hp.mono ?_; rintro e w' ⟨rfl, n, os, rfl⟩))
  go_end0
  exact ⟨rfl, dz, n, os, HS.out.1, HS.out.2, rfl⟩
set_option maxRecDepth 100000 in
set_option maxHeartbeats 2000000 in
theorem sortEdit_none (p : Option Addr) (cap : Nat) (w : World) :
    Calls Tryz.prog 15 #[.slice p 0 cap, .func (.func 16) #[] #[]] w fun e w' => e = .returned (.tuple #[]) ∧ w' = w := by
  have hp := fun lim W => AnyF.pdqsortCmpFunc_none Tryz.pdq33 p cap lim (.func (.func 16) #[] #[]) W
  change ∀ lim W, Calls Tryz.prog 33 _ _ _ at hp
  have hl := Tryz.bits_Len 0 w (by omega) (by omega)
  go_enter Tryz.func15, Tryz.ntmps15
  go_wp2_with (first | (go_at_call 34; refine hl.mono ?_; rintro e w' ⟨rfl, rfl⟩) | (go_at_call 33; refine (hp _ _).mono ?_; rintro e w' ⟨rfl, rfl⟩))
  go_end0
  exact ⟨rfl, rfl⟩
theorem seCells_len (d : SEd) : (seCells d).length = 3 := rfl
theorem holds_of_edits {w : World} {g cap : Nat} {D : List SEd} {cur : Array Value} {t : TypeId} (hh : w.heap[g]? = some (.cells cur t (0, 0))) (hr : RowsAt w 3 (.slice (some ⟨g, 0, none⟩) D.length cap) (D.map seCells)) : HoldsK seCells 3 w g 0 D.toArray := by
  intro q hq
  rw [size_flatK] at hq
  refine ⟨?_, freeIn hh _⟩
  have hq' : q < D.length * 3 := by simpa using hq
  rw [get_flatK _ _ _ q hq]
  have hd : D[q / 3]? = some (D[q / 3]'(by omega)) := List.getElem?_eq_getElem _
  obtain ⟨b, o, he, hc⟩ := RowsAt.at hr (k := q / 3) (r := seCells (D[q / 3]'(by omega))) (by simp [hd])
  cases he
  have hge : D.toArray[q / 3]! = D[q / 3]'(by omega) := by
    rw [getElem!_pos D.toArray (q / 3) (by simp; omega)]; simp
  rw [hge]
  have hm : q % 3 < 3 := Nat.mod_lt _ (by omega)
  have hx : (seCells (D[q / 3]'(by omega)))[q % 3]? = some ((seCells (D[q / 3]'(by omega)))[q % 3]!) := by
    rw [getElem!_pos _ (q % 3) (by rw [seCells_len]; exact hm)]
    exact List.getElem?_eq_getElem _
  have := hc (q % 3) _ hx
  rw [show 0 + q / 3 * 3 + q % 3 = 0 + q from by omega] at this
  exact this
theorem edits_of_holds {w : World} {g cap : Nat} {d : Array SEd} (h1 : d.size ≤ cap) (h2 : cap ≤ maxLen) (hH : HoldsK seCells 3 w g 0 d) : RowsAt w 3 (.slice (some ⟨g, 0, none⟩) d.size cap) (d.toList.map seCells) := by
  refine ⟨some ⟨g, 0, none⟩, cap, by simp, by simpa using h1, h2, fun _ => ⟨g, 0, rfl, fun i r hr j c hc => ?_⟩⟩
  rw [List.getElem?_map, Option.map_eq_some_iff] at hr
  obtain ⟨x, hx, rfl⟩ := hr
  have hj : j < 3 := by have := (List.getElem?_eq_some_iff.1 hc).1; rw [seCells_len] at this; exact this
  have hi : i < d.size := by have := (List.getElem?_eq_some_iff.1 hx).1; simpa using this
  have := (hH (i * 3 + j) (by rw [size_flatK]; omega)).1
  rw [get_flatK _ _ _ _ (by omega), show (i * 3 + j) / 3 = i from by omega, show (i * 3 + j) % 3 = j from by omega] at this
  have hge : d[i]! = x := by
    rw [getElem!_pos d i hi]
    have := (List.getElem?_eq_some_iff.1 hx).2
    simpa using this
  rw [hge] at this
  have hcj : (seCells x)[j]! = c := by
    rw [getElem!_pos _ j (by rw [seCells_len]; exact hj)]
    exact (List.getElem?_eq_some_iff.1 hc).2
  rw [hcj] at this
  rw [show 0 + i * 3 + j = 0 + (i * 3 + j) from by omega]
  exact this
theorem kept_sortEd (enc : SEd → List Value) (k : Nat) (w : World) (g off n : Nat) (d : Array SEd) (os : Array Obj) : Kept (· = g) w (sortWorldK enc k w g off n d os) := by
  refine ⟨rfl, rfl, rfl, size_sortWorldK_c enc k w g off n d os, fun i hi hs => ?_⟩
  have hsz : (putRowK enc k (Sort.ahead w n) g off d).heap.size = w.heap.size := size_putRowK enc k _ g off d
  unfold sortWorldK
  rw [heap_grow_old _ _ (by rw [hsz]; exact hi)]
  show (w.heap.modify g _)[i]? = _
  rw [Array.getElem?_modify, if_neg (fun e => hs e.symm)]
theorem sortEdit_at {w : World} {base n : Nat} {v : Value} {D : List SEd} (hn : n = D.length) (ho : w.ownsRow base 51 3 v n (D.map seCells).flatten) (hf : D.length ≤ 1099600000000) :
    Calls Tryz.prog 15 #[v, .func (.func 16) #[] #[]] w fun e w' => e = .returned (.tuple #[]) ∧
      ∃ D' : List SEd, D'.Perm D ∧ D'.Pairwise (fun x y => x.e.lo ≤ y.e.lo) ∧ RowsAt w' 3 v (D'.map seCells) ∧ Kept (fun q => v.ownBlock = some q) w w' := by
  subst hn
  have hrows := rowsAt_of_owns (by intro r hr; obtain ⟨x, _, rfl⟩ := List.mem_map.1 hr; rfl) (by simp) ho
  rcases ho.2 with ⟨rfl, h0⟩ | ⟨g, cap, cur, rfl, hg, hh, hnc, hcm, hcs, htake⟩
  · have hD : D = [] := List.length_eq_zero_iff.1 h0
    subst hD
    refine (sortEdit_none none 0 w).mono ?_
    rintro e w' ⟨rfl, rfl⟩
    exact ⟨rfl, [], .refl _, .nil, hrows, Kept.refl _ _⟩
  · have hs := sortEdit_some g 0 cap D.toArray w (holds_of_edits hh hrows) (ltIn hh) (by simp; omega)
    simp only [List.size_toArray] at hs
    refine hs.mono ?_
    rintro e w' ⟨rfl, d', n, os, hp, hso, rfl⟩
    have hsz : d'.size = D.length := by have := hp.1; simpa using this
    refine ⟨rfl, d'.toList, ?_, ?_, ?_, (kept_sortEd seCells 3 w g 0 n d' os).mono (fun q _ hq => by subst hq; rfl)⟩
    · have := hp.2.2
      rw [Array.extract_eq_self_of_le (by omega), Array.extract_eq_self_of_le (by simp)] at this
      simpa using this
    · rw [List.pairwise_iff_getElem]
      intro i j hi hj hij
      have hi' : i < d'.size := by simpa using hi
      have hj' : j < d'.size := by simpa using hj
      have := hso i j (Nat.zero_le _) hij (by omega)
      rw [edit_lt, getElem!_pos d' i hi', getElem!_pos d' j hj'] at this
      simpa using this
    · have := edits_of_holds (g := g) (cap := cap) (by omega) hcm (holdsK_sortWorldK_c seCells 3 w g 0 D.toArray d' n os (holds_of_edits hh hrows) (ltIn hh) (by simp; omega))
      rw [hsz] at this
      exact this
end
end Go.Proofs.YtplbdlgmjehckadGreatDoor

namespace Go.Proofs.YtplbdlgmjehckadGreatDoor
open Go.RowKit
set_option linter.unusedVariables false
set_option linter.unusedSimpArgs false
theorem owns_apart {w : World} {b1 b2 e1 e2 z1 z2 n1 n2 : Nat} {v1 v2 : Value} {x1 x2 : List Value} (h1 : w.ownsRow b1 e1 z1 v1 n1 x1) (h2 : w.ownsRow b2 e2 z2 v2 n2 x2) (he : e1 ≠ e2) (k : Nat) (hk : v1.ownBlock = some k) : ¬ v2.ownBlock = some k := by
  intro hk2
  rcases h1.2 with ⟨rfl, _⟩ | ⟨g, cap, cur, rfl, _, hg, _⟩
  · cases hk
  · rcases h2.2 with ⟨rfl, _⟩ | ⟨g', cap', cur', rfl, _, hg', _⟩
    · cases hk2
    · cases hk; cases hk2
      rw [hg] at hg'
      simp only [Option.some.injEq, Obj.cells.injEq] at hg'
      exact he hg'.2.1
def edCells (e : PEdit) : List Value := [.int .i64 (e.lo : Int), .int .i64 (e.hi : Int), .string (str e.text)]
def EOwn (w wr : World) (v : Value) (es : List PEdit) : Prop := wr.ownsRow w.heap.size 51 3 v es.length (es.map edCells).flatten
theorem info_edit : (Tryz.prog.info? 51).map (fun i => (i.zero, i.size, i.bytes)) = some (some (.agg #[.int .i64 0, .int .i64 0, .string ⟨#[]⟩]), 3, 32) := by kernel_rfl
theorem EOwn.push {w wr : World} {ao : Option Addr} {ac : Nat} {es : List PEdit} (h : EOwn w wr (.slice ao es.length ac) es) (hk : Kept (fun _ => False) w wr) (e : PEdit) (hq : es.length ≤ 1000000) :
    ∃ a' c' w', (Builtin.append_ #[41, 41] 41 #[.slice ao es.length ac, .slice (some ⟨wr.heap.size, 0, none⟩) 1 1]).run Tryz.prog (wr.alloc (.cells #[.int .i64 (e.lo : Int), .int .i64 (e.hi : Int), .string (str e.text)] 51 (0, 0))) = .ok (.slice a' (es.length + 1) c') w' ∧
      EOwn w w' (.slice a' (es.length + 1) c') (es ++ [e]) ∧ Kept (fun k => (Value.slice ao es.length ac).ownBlock = some k) wr w' := by
  obtain ⟨i0, hi0, hz0, hz1, hz2⟩ := info_parts info_edit
  obtain ⟨wa, HWA⟩ : ∃ x, wr.alloc (.cells #[.int .i64 (e.lo : Int), .int .i64 (e.hi : Int), .string (str e.text)] 51 (0, 0)) = x := ⟨_, rfl⟩
  have hb : wa.heap[wr.heap.size]? = some (.cells #[.int .i64 (e.lo : Int), .int .i64 (e.hi : Int), .string (str e.text)] 51 (0, 0)) := by rw [← HWA]; exact newIn wr _
  have hka : Kept (fun _ => False) wr wa := by rw [← HWA]; exact (Kept.refl _ wr).alloc _
  have h2 := owns_kept h hka (fun _ _ => id)
  obtain ⟨a', c', w', hr', ho', k', _⟩ := append_any (P := Tryz.prog) wa 41 41 w.heap.size 51 i0 _ 3 32 Tryz.underlying41 hi0 hz0 hz1 hz2 rfl (by omega) ao es.length ac _ h2 (some ⟨wr.heap.size, 0, none⟩) 1 1 [edCells e] (rows_fresh hb rfl (by simp [edCells]) rfl (by simp [maxLen])) (by simp [edCells]) (by simp [edCells, Value.oneCell']) (by unfold maxLen; omega) (by omega) (Nat.le_trans hk.size hka.size)
  rw [HWA]
  refine ⟨a', c', w', hr', ?_, (hka.mono (fun _ _ h => h.elim)).trans k'⟩
  unfold EOwn
  rw [List.length_append, List.map_append, List.flatten_append]
  exact ho'
structure GRow (w wr : World) (v : Value) (qs : List PRule) : Prop where
  ex : ∃ vs, vs.length = qs.length ∧ wr.ownsRow w.heap.size 49 5 v qs.length (List.zipWith ruleCells qs vs).flatten ∧ ∀ (i : Nat) (q : PRule) (u : Value), qs[i]? = some q → vs[i]? = some u → RuleAt w u q
theorem GRow.nil (w wr : World) : GRow w wr (.slice none 0 0) [] := ⟨⟨[], rfl, World.ownsRow_nil _ _ _ _, fun i q u h => by simp at h⟩⟩
theorem GRow.form {w wr : World} {v : Value} {qs : List PRule} (h : GRow w wr v qs) : ∃ a c, v = .slice a qs.length c := by
  obtain ⟨vs, _, h2, _⟩ := h.ex
  exact owns_form h2
theorem GRow.kept {w wr wx : World} {v : Value} {qs : List PRule} {S : Nat → Prop} (h : GRow w wr v qs) (hk : Kept S wr wx) (hs : ∀ k, v.ownBlock = some k → ¬ S k) : GRow w wx v qs := by
  obtain ⟨vs, h1, h2, h3⟩ := h.ex
  exact ⟨⟨vs, h1, owns_kept h2 hk hs, h3⟩⟩
theorem GRow.reads {w wr : World} {v : Value} {qs : List PRule} (h : GRow w wr v qs) (hk : Kept (fun _ => False) w wr) : RulesAt wr v qs := by
  obtain ⟨vs, h1, h2, h3⟩ := h.ex
  exact ⟨vs, h1, rowsAt_of_owns (zipRows ruleCells_len) (by simp [h1]) h2, fun i x u hx hu => rule_firm.kept (h3 i x u hx hu) hk⟩
theorem ruleA_ones {w : World} {q : PRule} {u : Value} (h : RuleAt w u q) : ∀ x ∈ ruleCells q u, x.oneCell' = true := by
  obtain ⟨sv, dv, rfl, hs, hd⟩ := h
  obtain ⟨_, _, rfl, _⟩ := NestAt.form hs
  obtain ⟨_, _, rfl, _⟩ := DeclsAt.form hd
  simp only [ruleCells, vFst, vSnd, List.mem_cons, List.not_mem_nil, or_false]
  rintro x (rfl | rfl | rfl | rfl | rfl) <;> rfl
theorem GRow.push {w wr : World} {ao : Option Addr} {ac : Nat} {qs : List PRule} (h : GRow w wr (.slice ao qs.length ac) qs) (hk : Kept (fun _ => False) w wr) (q : PRule) (u : Value) (hu : RuleAt w u q) (hq : qs.length ≤ 1000000) :
    ∃ a' c' w', (Builtin.append_ #[30, 30] 30 #[.slice ao qs.length ac, .slice (some ⟨wr.heap.size, 0, none⟩) 1 1]).run Tryz.prog (wr.alloc (.cells (ruleCells q u).toArray 49 (0, 0))) = .ok (.slice a' (qs.length + 1) c') w' ∧
      GRow w w' (.slice a' (qs.length + 1) c') (qs ++ [q]) ∧ Kept (fun k => (Value.slice ao qs.length ac).ownBlock = some k) wr w' := by
  obtain ⟨vs, h1, h2, h3⟩ := h.ex
  obtain ⟨i0, hi0, hz0, hz1, hz2⟩ := info_parts info_rule
  obtain ⟨wa, HWA⟩ : ∃ x, wr.alloc (.cells (ruleCells q u).toArray 49 (0, 0)) = x := ⟨_, rfl⟩
  have hb : wa.heap[wr.heap.size]? = some (.cells (ruleCells q u).toArray 49 (0, 0)) := by rw [← HWA]; exact newIn wr _
  have hka : Kept (fun _ => False) wr wa := by rw [← HWA]; exact (Kept.refl _ wr).alloc _
  have h2' := owns_kept h2 hka (fun _ _ => id)
  obtain ⟨a', c', w', hr', ho', k', _⟩ := append_any (P := Tryz.prog) wa 30 30 w.heap.size 49 i0 _ 5 80 Tryz.underlying30 hi0 hz0 hz1 hz2 rfl (by omega) ao qs.length ac _ h2' (some ⟨wr.heap.size, 0, none⟩) 1 1 [ruleCells q u] (rows_fresh hb (by simp) (by simp [ruleCells]) rfl (by simp [maxLen])) (by simp [ruleCells]) (by simpa using ruleA_ones hu) (by unfold maxLen; omega) (by omega) (Nat.le_trans hk.size hka.size)
  rw [HWA]
  refine ⟨a', c', w', hr', ⟨⟨vs ++ [u], by simp [h1], ?_, fun i x y hx hy => ?_⟩⟩, (hka.mono (fun _ _ h => h.elim)).trans k'⟩
  · rw [List.zipWith_append (by rw [h1]), List.flatten_append, List.length_append]
    exact ho'
  · by_cases hi : i < qs.length
    · rw [List.getElem?_append_left hi] at hx
      rw [List.getElem?_append_left (by omega)] at hy
      exact h3 i x y hx hy
    · rw [List.getElem?_append_right (by omega)] at hx
      rw [List.getElem?_append_right (by omega), h1] at hy
      cases hj : i - qs.length with
      | zero => rw [hj] at hx hy; simp at hx hy; subst hx hy; exact hu
      | succ j => rw [hj] at hx; simp at hx
structure FRows (w wr : World) (g e : Value) (qs : List PRule) (es : List PEdit) : Prop where
  gone : GRow w wr g qs
  eds : EOwn w wr e es
  kept : Kept (fun _ => False) w wr
theorem FRows.still {w wr wx : World} {g e : Value} {qs : List PRule} {es : List PEdit} (h : FRows w wr g e qs es) (hk : Kept (fun _ => False) wr wx) : FRows w wx g e qs es :=
  ⟨h.gone.kept hk (fun _ _ => id), owns_kept h.eds hk (fun _ _ => id), h.kept.trans hk⟩
theorem FRows.pushE {w wr : World} {g : Value} {ao : Option Addr} {ac : Nat} {qs : List PRule} {es : List PEdit} (h : FRows w wr g (.slice ao es.length ac) qs es) (x : PEdit) (hq : es.length ≤ 1000000) :
    ∃ a' c' w', (Builtin.append_ #[41, 41] 41 #[.slice ao es.length ac, .slice (some ⟨wr.heap.size, 0, none⟩) 1 1]).run Tryz.prog (wr.alloc (.cells #[.int .i64 (x.lo : Int), .int .i64 (x.hi : Int), .string (str x.text)] 51 (0, 0))) = .ok (.slice a' (es.length + 1) c') w' ∧
      FRows w w' g (.slice a' (es.length + 1) c') qs (es ++ [x]) := by
  obtain ⟨a', c', w', h1, h2, h3⟩ := h.eds.push h.kept x hq
  refine ⟨a', c', w', h1, h.gone.kept h3 (fun k hk => ?_), h2, h.kept.trans' h3 (fun i hi hx => by have := (World.ownsRow.lt h.eds i hx).1; omega)⟩
  obtain ⟨vs, _, g2, _⟩ := h.gone.ex
  exact owns_apart g2 h.eds (by decide) k hk
theorem FRows.pushG {w wr : World} {e : Value} {ao : Option Addr} {ac : Nat} {qs : List PRule} {es : List PEdit} (h : FRows w wr (.slice ao qs.length ac) e qs es) (q : PRule) (u : Value) (hu : RuleAt w u q) (hq : qs.length ≤ 1000000) :
    ∃ a' c' w', (Builtin.append_ #[30, 30] 30 #[.slice ao qs.length ac, .slice (some ⟨wr.heap.size, 0, none⟩) 1 1]).run Tryz.prog (wr.alloc (.cells (ruleCells q u).toArray 49 (0, 0))) = .ok (.slice a' (qs.length + 1) c') w' ∧
      FRows w w' (.slice a' (qs.length + 1) c') e (qs ++ [q]) es := by
  obtain ⟨a', c', w', h1, h2, h3⟩ := h.gone.push h.kept q u hu hq
  obtain ⟨vs, _, g2, _⟩ := h.gone.ex
  refine ⟨a', c', w', h1, h2, owns_kept h.eds h3 (fun k hk => ?_), h.kept.trans' h3 (fun i hi hx => by have := (World.ownsRow.lt g2 i hx).1; omega)⟩
  exact owns_apart h.eds g2 (by decide) k hk
end Go.Proofs.YtplbdlgmjehckadGreatDoor

namespace Go.Proofs.YtplbdlgmjehckadGreatDoor
open Go.RowKit
set_option linter.unusedVariables false
set_option linter.unusedSimpArgs false
def RdAt (w : World) (b : Nat) (s : B) (at_ : Nat) (v : Value) : Prop :=
  w.heap[b]? = some (.cells #[.string (str s), .int .i64 (at_ : Int), v] 108 (0, 0)) ∧ at_ ≤ s.length ∧ s.length ≤ 6000
def oops (f : Flt) : Value := .iface 105 (.agg #[.int .i64 (f.err : Int), .int .i64 (f.pos : Int)])
@[reducible] def thrown (f : Flt) : Ending := .panicked [{ v := oops f, recovered := false }]
theorem RdAt.kept {w w' : World} {b : Nat} {s : B} {a : Nat} {v : Value} {S : Nat → Prop} (h : RdAt w b s a v) (hk : Kept S w w') (hs : ¬ S b) : RdAt w' b s a v :=
  ⟨hk.heap hs h.1, h.2⟩
theorem RdAt.quiet {w w' : World} {b : Nat} {s : B} {a : Nat} {v : Value} (h : RdAt w b s a v) (hk : Qt w w') : RdAt w' b s a v :=
  h.kept (S := fun _ => False) (hk.kept _) id
theorem RdAt.alloc {w : World} {b : Nat} {s : B} {a : Nat} {v : Value} (h : RdAt w b s a v) (o : Obj) : RdAt (w.alloc o) b s a v := ⟨oldIn h.1 o, h.2⟩
theorem RdAt.set {w : World} {b : Nat} {s : B} {a : Nat} {v : Value} (h : RdAt w b s a v) {x : Int} {a' : Nat} (hx : x = (a' : Int)) (hl : a' ≤ s.length) : RdAt (w.setCell ⟨b, 1, none⟩ (.int .i64 x)) b s a' v := by
  refine ⟨?_, hl, h.2.2⟩
  subst hx
  have := setIn h.1 1 (.int .i64 (a' : Int))
  simpa using this
theorem RdAt.other {w : World} {b : Nat} {s : B} {a : Nat} {v : Value} (h : RdAt w b s a v) {p : Addr} {x : Value} (hp : b ≠ p.block) : RdAt (w.setCell p x) b s a v := ⟨otherIn h.1 p x hp, h.2⟩
theorem RdAt.drewN {w : World} {b : Nat} {s : B} {a : Nat} {v : Value} (h : RdAt w b s a v) (n : Nat) : RdAt (w.drewN n) b s a v := h
theorem RdAt.c0 {w : World} {b : Nat} {s : B} {a : Nat} {v : Value} (h : RdAt w b s a v) : w.cell? ⟨b, 0, none⟩ = some (.string (str s)) := cellIn h.1 0 rfl
theorem RdAt.c1 {w : World} {b : Nat} {s : B} {a : Nat} {v : Value} (h : RdAt w b s a v) : w.cell? ⟨b, 1, none⟩ = some (.int .i64 (a : Int)) := cellIn h.1 1 rfl
theorem RdAt.c2 {w : World} {b : Nat} {s : B} {a : Nat} {v : Value} (h : RdAt w b s a v) : w.cell? ⟨b, 2, none⟩ = some v := cellIn h.1 2 rfl
theorem RdAt.free {w : World} {b : Nat} {s : B} {a : Nat} {v : Value} (h : RdAt w b s a v) (k : Nat) : w.frozen? ⟨b, k, none⟩ = false := freeIn h.1 k
theorem RdAt.lt {w : World} {b : Nat} {s : B} {a : Nat} {v : Value} (h : RdAt w b s a v) : b < w.heap.size := ltIn h.1
set_option maxHeartbeats 400000 in
theorem fail_any (err : Nat) (w : World) (b : Nat) (s : B) (at_ : Nat) (v : Value) (h : RdAt w b s at_ v) :
    Calls Tryz.prog 38 #[.pointer (some ⟨b, 0, none⟩), .int .i64 (err : Int)] w fun e w' => e = thrown ⟨err, at_⟩ ∧ Qt w w' := by
  have h1 := cellIn h.1 1 rfl
  clear h
  go_enter Tryz.func38, Tryz.ntmps38
  go_wp2
  exact ⟨rfl, rfl, 0, rfl⟩
set_option maxHeartbeats 400000 in
theorem is_any (word : B) (w : World) (b : Nat) (s : B) (at_ : Nat) (v : Value) (h : RdAt w b s at_ v) :
    Calls Tryz.prog 66 #[.pointer (some ⟨b, 0, none⟩), .string (str word)] w fun e w' => e = .returned (.bool (word.isPrefixOf (s.drop at_))) ∧ ∃ n, w' = w.drewN n := by
  have h0 := cellIn h.1 0 rfl
  have h1 := cellIn h.1 1 rfl
  have hl := h.2.1
  have hm := h.2.2
  clear h
  go_enter Tryz.func66, Tryz.ntmps66
  go_wp2
  go_quiet ((go_at_call 92; refine Calls.quiet_of_same (hasPrefix_any _ _ _)))
  go_wp2
  go_ret
  exact ⟨rfl, _, rfl⟩
set_option maxHeartbeats 400000 in
theorem must_bad (word : B) (w : World) (b : Nat) (s : B) (at_ : Nat) (v : Value) (h : RdAt w b s at_ v) (hp : word.isPrefixOf (s.drop at_) = false) :
    Calls Tryz.prog 94 #[.pointer (some ⟨b, 0, none⟩), .string (str word)] w fun e w' => e = thrown ⟨2, at_⟩ ∧ Qt w w' := by
  have H := Lib.hid h
  have HP := Lib.hid hp
  clear h hp
  go_enter Tryz.func94, Tryz.ntmps94
  go_wp2_with fail
  refine (is_any word _ _ _ _ _ H.out).mono ?_
  rintro e w1 ⟨rfl, hq0⟩
  have hq : Qt w w1 := hq0
  clear hq0
  rw [HP.out]
  have H1 := Lib.hid (RdAt.quiet H.out hq)
  go_wp2_with fail
  refine (fail_any 2 _ _ _ _ _ H1.out).mono ?_
  rintro e w2 ⟨rfl, hq2⟩
  have HQ := Lib.hid (hq.trans hq2)
  clear hq hq2
  go_wp2_with fail
  exact ⟨rfl, rfl, HQ.out⟩
set_option maxHeartbeats 400000 in
theorem must_ok (word : B) (w : World) (b : Nat) (s : B) (at_ : Nat) (v : Value) (h : RdAt w b s at_ v) (hp : word.isPrefixOf (s.drop at_) = true) :
    Calls Tryz.prog 94 #[.pointer (some ⟨b, 0, none⟩), .string (str word)] w fun e w' => e = .returned (.tuple #[]) ∧ Kept (· = b) w w' ∧ RdAt w' b s (at_ + word.length) v := by
  have H := Lib.hid h
  have HP := Lib.hid hp
  have hl : at_ + word.length ≤ s.length := by
    have := (List.isPrefixOf_iff_prefix.1 hp).length_le
    simp only [List.length_drop] at this
    have := h.2.1
    by_cases hw : word = []
    · subst hw; simpa using h.2.1
    · have : 0 < word.length := List.length_pos_iff.2 hw
      omega
  have hm := h.2.2
  clear h hp
  go_enter Tryz.func94, Tryz.ntmps94
  go_wp2_with fail
  refine (is_any word _ _ _ _ _ H.out).mono ?_
  rintro e w1 ⟨rfl, hq0⟩
  have hq : Qt w w1 := hq0
  clear hq0
  rw [HP.out]
  have h1 := RdAt.quiet H.out hq
  have hk := hq.kept (· = b)
  have H1 := Lib.hid h1
  have c1 := cellIn h1.1 1 rfl
  have f1 := freeIn h1.1 1
  clear h1 hq
  have HK := Lib.hid hk
  clear hk
  go_wp2_with fail
  go_end0
  refine ⟨rfl, HK.out.setCell (.inl rfl) _, ?_, hl, hm⟩
  have := setIn H1.out.1 1 (.int .i64 ((at_ + word.length : Nat) : Int))
  simpa using this
theorem drop_get (s : B) (a j : Nat) (h : j < (s.drop a).length) : (s.drop a)[j] = s[a + j]'(by simp only [List.length_drop] at h; omega) := by simp
def NameEnds (w : World) (b : Nat) (s : B) (at_ : Nat) (v : Value) (n : Nat) (e : Ending) (w' : World) : Prop :=
  if n = 0 then e = thrown ⟨2, at_⟩ ∧ Qt w w' else if 20 < n then e = thrown ⟨7, at_⟩ ∧ Qt w w' else
  e = .returned (.string (str ((s.drop at_).take n))) ∧ Kept (· = b) w w' ∧ RdAt w' b s (at_ + n) v
set_option maxHeartbeats 1600000 in
theorem name_walk (w : World) (b : Nat) (s : B) (at_ : Nat) (v : Value) (h : RdAt w b s at_ v) (n : Nat) (hn : at_ + n ≤ s.length)
    (hin : ∀ j, j < n → ∃ h : at_ + j < s.length, inName j (s[at_ + j]'h) = true) (hout : (h : at_ + n < s.length) → inName n (s[at_ + n]'h) = false) :
    Calls Tryz.prog 95 #[.pointer (some ⟨b, 0, none⟩)] w (NameEnds w b s at_ v n) := by
  have H := Lib.hid h
  have HIN := Lib.hid hin
  have HOUT := Lib.hid hout
  have hl := h.2.1
  have hm := h.2.2
  have c0 := cellIn h.1 0 rfl
  have c1 := cellIn h.1 1 rfl
  have f1 := freeIn h.1 1
  clear h hin hout
  go_enter Tryz.func95, Tryz.ntmps95
  go_upto_block 0 with fail
  go_cut [3] (fun k wx => k = .int .i64 ((at_ + n : Nat) : Int) ∧ wx = w)
  case first =>
    go_wp2_with fail
    go_loop [3] (fun k => ∃ j : Nat, j ≤ n ∧ k = .int .i64 ((at_ + j : Nat) : Int)) (fun k => s.length - (intOf k).toNat)
    case atStart => exact ⟨0, by omega, rfl⟩
    case round =>
      obtain ⟨j, hj, rfl⟩ := hrel
      by_cases hlt : j < n
      · obtain ⟨h3, h2⟩ := HIN.out j hlt
        have h4 := inName_yes h2
        clear h2
        rcases h4 with ⟨h5, h6⟩ | ⟨h5, h6, h7⟩ | ⟨h5, h6⟩
        · go_wp2
          go_round
          case rel => exact ⟨j + 1, by omega, by go_num⟩
          case measure => simp [intOf]; omega
        · have e1 : (((at_ : Int) + (j : Int)) == (at_ : Int)) = false := by simp; omega
          have e2 : (((s[at_ + j]'h3).toNat : Int) != 45) = true := by simp; omega
          go_wp2
          go_round
          case rel => exact ⟨j + 1, by omega, by go_num⟩
          case measure => simp [intOf]; omega
        · have e1 : (((at_ : Int) + (j : Int)) == (at_ : Int)) = false := by simp; omega
          have e2 : (((s[at_ + j]'h3).toNat : Int) != 45) = false := by simp; omega
          have e3 : ((s[at_ + j]'h3).toNat : Int) ≤ 45 := by omega
          have e4 : 45 ≤ ((s[at_ + j]'h3).toNat : Int) := by omega
          clear h6
          go_wp2
          go_round
          case rel => exact ⟨j + 1, by omega, by go_num⟩
          case measure => simp [intOf]; omega
      · obtain rfl : j = n := by omega
        by_cases h3 : at_ + j < s.length
        · have h4 := inName_no (HOUT.out h3)
          obtain ⟨h5, h6⟩ := h4
          by_cases hj0 : j = 0
          · have e1 : (((at_ : Int) + (j : Int)) == (at_ : Int)) = true := by simp; omega
            have hj1 : j ≤ 0 := by omega
            clear hj0
            rcases h5 with h5 | h5
            all_goals
              clear h6
              go_wp2
              go_meet
              case rel => exact ⟨rfl, rfl⟩
          · have h7 := h6.resolve_left hj0
            obtain ⟨h8, h9⟩ := h7
            have e1 : (((at_ : Int) + (j : Int)) == (at_ : Int)) = false := by simp; omega
            have e2 : (((s[at_ + j]'h3).toNat : Int) != 45) = true := by simpa using h9
            clear h6 h9
            rcases h5 with h5 | h5 <;> rcases h8 with h8 | h8 <;> (try (exfalso; omega))
            all_goals
              go_wp2
              go_meet
              case rel => exact ⟨rfl, rfl⟩
        · go_wp2
          go_meet
          case rel => exact ⟨rfl, rfl⟩
  case rest =>
    obtain ⟨rfl, rfl⟩ := hcut
    go_wp2
    go_quiet (fail)
    have hmin : min n (s.length - at_) = n := by omega
    have H1 : Hid (RdAt (wc.drewN nq) b s at_ v) := Lib.hid (RdAt.quiet H.out ⟨nq, rfl⟩)
    by_cases h0 : n = 0
    · have e0 : ((s.drop at_).take n).isEmpty = true := by rw [h0]; simp
      have H0 := Lib.hid h0
      clear h0
      go_wp2_with (go_at_call 38; refine (fail_any 2 _ _ _ _ _ H1.out).mono ?_; rintro e w2 ⟨rfl, hq2⟩)
      refine ⟨rfl, ?_⟩
      unfold NameEnds
      rw [if_pos H0.out]
      exact ⟨rfl, Qt.trans ⟨nq, rfl⟩ hq2⟩
    · have e0 : ((s.drop at_).take n).isEmpty = false := by
        cases hx : (s.drop at_).take n with
        | nil => have := congrArg List.length hx; simp at this; omega
        | cons _ _ => rfl
      by_cases h20 : 20 < n
      · go_wp2_with (go_at_call 38; refine (fail_any 7 _ _ _ _ _ H1.out).mono ?_; rintro e w2 ⟨rfl, hq2⟩)
        refine ⟨rfl, ?_⟩
        unfold NameEnds
        rw [if_neg h0, if_pos h20]
        exact ⟨rfl, Qt.trans ⟨nq, rfl⟩ hq2⟩
      · go_wp2
        go_ret
        unfold NameEnds
        rw [if_neg h0, if_neg h20]
        refine ⟨rets (by rw [Nat.add_sub_cancel_left]), ((Kept.refl (· = b) wc).drewN nq).setCell (p := ⟨b, 1, none⟩) (.inl rfl) _, ?_, hn, hm⟩
        have := setIn H1.out.1 1 (.int .i64 ((at_ + n : Nat) : Int))
        simpa using this
theorem name_any (w : World) (b : Nat) (s : B) (at_ : Nat) (v : Value) (h : RdAt w b s at_ v) :
    Calls Tryz.prog 95 #[.pointer (some ⟨b, 0, none⟩)] w (NameEnds w b s at_ v (nameLen (s.drop at_))) := by
  have hn := nameLen_le (s.drop at_)
  rw [List.length_drop] at hn
  have hl := h.2.1
  refine name_walk w b s at_ v h _ (by omega) (fun j hj => ?_) (fun hlt => ?_)
  · obtain ⟨h1, h2⟩ := nameLen_in _ _ hj
    refine ⟨by rw [List.length_drop] at h1; omega, ?_⟩
    rw [drop_get s at_ j h1] at h2
    exact h2
  · have h1 : nameLen (s.drop at_) < (s.drop at_).length := by rw [List.length_drop]; omega
    have := nameLen_out _ h1
    rw [drop_get s at_ _ h1] at this
    exact this
theorem name_bad {f : Flt} (w : World) (b : Nat) (s : B) (at_ : Nat) (v : Value) (h : RdAt w b s at_ v) (hp : pName (s.drop at_) at_ = .bad f) :
    Calls Tryz.prog 95 #[.pointer (some ⟨b, 0, none⟩)] w fun e w' => e = thrown f ∧ Qt w w' :=
  (name_any w b s at_ v h).mono fun e w' hh => by
    unfold NameEnds at hh
    unfold pName at hp
    split at hh
    · rename_i h0; rw [if_pos h0] at hp; cases hp; exact hh
    · rename_i h0
      rw [if_neg h0] at hp
      split at hh
      · rename_i h1; rw [if_pos h1] at hp; cases hp; exact hh
      · rename_i h1; rw [if_neg h1] at hp; cases hp
theorem name_ok {nm l' : B} {at' : Nat} (w : World) (b : Nat) (s : B) (at_ : Nat) (v : Value) (h : RdAt w b s at_ v) (hp : pName (s.drop at_) at_ = .ok (nm, l', at')) :
    Calls Tryz.prog 95 #[.pointer (some ⟨b, 0, none⟩)] w fun e w' => e = .returned (.string (str nm)) ∧ Kept (· = b) w w' ∧ RdAt w' b s at' v ∧ l' = s.drop at' :=
  (name_any w b s at_ v h).mono fun e w' hh => by
    unfold NameEnds at hh
    unfold pName at hp
    split at hh
    · rename_i h0; rw [if_pos h0] at hp; cases hp
    · rename_i h0
      rw [if_neg h0] at hp
      split at hh
      · rename_i h1; rw [if_pos h1] at hp; cases hp
      · rename_i h1; rw [if_neg h1] at hp; cases hp
        exact ⟨hh.1, hh.2.1, hh.2.2, by rw [List.drop_drop]⟩
end Go.Proofs.YtplbdlgmjehckadGreatDoor

