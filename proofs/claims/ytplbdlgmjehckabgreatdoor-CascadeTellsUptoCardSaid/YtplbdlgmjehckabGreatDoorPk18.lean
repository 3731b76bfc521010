/-
  Lemmas for the claims of this seat: the program's functions walked, and plain laws. In this order: R3Init R3Value CaSame CaLawTells CdFrame.
-/
import Derived.Test.YtplbdlgmjehckabGreatDoorPk1
import Derived.Test.YtplbdlgmjehckabGreatDoorPk3
import Derived.Test.YtplbdlgmjehckabGreatDoorPk4
import Derived.Deep.DeepCutAuto
import Derived.Deep.CutBlock
import Derived.Deep.Light
import Derived.Deep.LoopGhost
import Derived.Deep.RegionHeld3
import Derived.Test.YtplbdlgmjehckabGreatDoorPk17
import Derived.Test.YtplbdlgmjehckabGreatDoorPk10
import Derived.Test.YtplbdlgmjehckabGreatDoorPk9
import Derived.Test.YtplbdlgmjehckabGreatDoorTie
import Derived.Test.YtplbdlgmjehckabGreatDoorCards
import Derived.HandedShaped
import Derived.ProofKit
import Derived.Shelf.Vars
import Derived.Deep.DeepHandedRow
import Derived.Deep.DeepWitnessRowRef
namespace Go.Proofs.YtplbdlgmjehckabGreatDoor
open Go.RowKit
set_option linter.unusedVariables false
set_option linter.unusedSimpArgs false
set_option maxHeartbeats 400000 in
theorem rinherits_any (n : B) (w : World) : Calls Tryz.prog 44 #[.string (str n)] w fun e w' => e = .returned (.bool (pInherits n)) ∧ w' = w := by
  obtain ⟨r, HR⟩ : ∃ r, Hid (pInherits n = r) := ⟨_, rfl⟩
  rw [HR.out]
  go_enter Tryz.func44, Tryz.ntmps44
  go_wp2
  all_goals
    go_ret
    exact ⟨retb (by rw [← HR.out]; simp_all [pInherits, colorName, fontName, sizeName]), rfl⟩
@[reducible] def inE1 : MapEntry := ⟨.string ⟨#[99, 111, 108, 111, 114]⟩, .string ⟨#[98, 108, 97, 99, 107]⟩, 0⟩
@[reducible] def inE2 : MapEntry := ⟨.string ⟨#[102, 111, 110, 116]⟩, .string ⟨#[112, 108, 97, 105, 110]⟩, 1⟩
@[reducible] def inE3 : MapEntry := ⟨.string ⟨#[115, 105, 122, 101]⟩, .string ⟨#[49, 48]⟩, 2⟩
@[reducible] def inE4 : MapEntry := ⟨.string ⟨#[101, 100, 103, 101, 45, 116, 111, 112]⟩, .string ⟨#[48]⟩, 3⟩
@[reducible] def inE5 : MapEntry := ⟨.string ⟨#[101, 100, 103, 101, 45, 114, 105, 103, 104, 116]⟩, .string ⟨#[48]⟩, 4⟩
@[reducible] def inE6 : MapEntry := ⟨.string ⟨#[101, 100, 103, 101, 45, 98, 111, 116, 116, 111, 109]⟩, .string ⟨#[48]⟩, 5⟩
@[reducible] def inE7 : MapEntry := ⟨.string ⟨#[101, 100, 103, 101, 45, 108, 101, 102, 116]⟩, .string ⟨#[48]⟩, 6⟩
theorem str_beq (a b : B) : (str a == str b) = (a == b) := by
  show ((str a).data == (str b).data) = _
  simp [str]
theorem in_ins1 (w : World) : (Instr.mapUpdate 157 (.map (some w.heap.size)) (.string ⟨#[99, 111, 108, 111, 114]⟩) (.string ⟨#[98, 108, 97, 99, 107]⟩)).run Tryz.prog (w.alloc (.map #[] 0)) = .ok () (w.alloc (.map #[inE1] 1)) :=
  run_insert_top Tryz.underlying157 Tryz.underlying9 w (by trivial) (by kernel_rfl)
theorem in_ins2 (w : World) : (Instr.mapUpdate 157 (.map (some w.heap.size)) (.string ⟨#[102, 111, 110, 116]⟩) (.string ⟨#[112, 108, 97, 105, 110]⟩)).run Tryz.prog (w.alloc (.map #[inE1] 1)) = .ok () (w.alloc (.map #[inE1, inE2] 2)) :=
  run_insert_top Tryz.underlying157 Tryz.underlying9 w (by trivial) (by kernel_rfl)
theorem in_ins3 (w : World) : (Instr.mapUpdate 157 (.map (some w.heap.size)) (.string ⟨#[115, 105, 122, 101]⟩) (.string ⟨#[49, 48]⟩)).run Tryz.prog (w.alloc (.map #[inE1, inE2] 2)) = .ok () (w.alloc (.map #[inE1, inE2, inE3] 3)) :=
  run_insert_top Tryz.underlying157 Tryz.underlying9 w (by trivial) (by kernel_rfl)
theorem in_ins4 (w : World) : (Instr.mapUpdate 157 (.map (some w.heap.size)) (.string ⟨#[101, 100, 103, 101, 45, 116, 111, 112]⟩) (.string ⟨#[48]⟩)).run Tryz.prog (w.alloc (.map #[inE1, inE2, inE3] 3)) = .ok () (w.alloc (.map #[inE1, inE2, inE3, inE4] 4)) :=
  run_insert_top Tryz.underlying157 Tryz.underlying9 w (by trivial) (by kernel_rfl)
theorem in_ins5 (w : World) : (Instr.mapUpdate 157 (.map (some w.heap.size)) (.string ⟨#[101, 100, 103, 101, 45, 114, 105, 103, 104, 116]⟩) (.string ⟨#[48]⟩)).run Tryz.prog (w.alloc (.map #[inE1, inE2, inE3, inE4] 4)) = .ok () (w.alloc (.map #[inE1, inE2, inE3, inE4, inE5] 5)) :=
  run_insert_top Tryz.underlying157 Tryz.underlying9 w (by trivial) (by kernel_rfl)
theorem in_ins6 (w : World) : (Instr.mapUpdate 157 (.map (some w.heap.size)) (.string ⟨#[101, 100, 103, 101, 45, 98, 111, 116, 116, 111, 109]⟩) (.string ⟨#[48]⟩)).run Tryz.prog (w.alloc (.map #[inE1, inE2, inE3, inE4, inE5] 5)) = .ok () (w.alloc (.map #[inE1, inE2, inE3, inE4, inE5, inE6] 6)) :=
  run_insert_top Tryz.underlying157 Tryz.underlying9 w (by trivial) (by kernel_rfl)
theorem in_ins7 (w : World) : (Instr.mapUpdate 157 (.map (some w.heap.size)) (.string ⟨#[101, 100, 103, 101, 45, 108, 101, 102, 116]⟩) (.string ⟨#[48]⟩)).run Tryz.prog (w.alloc (.map #[inE1, inE2, inE3, inE4, inE5, inE6] 6)) = .ok () (w.alloc (.map #[inE1, inE2, inE3, inE4, inE5, inE6, inE7] 7)) :=
  run_insert_top Tryz.underlying157 Tryz.underlying9 w (by trivial) (by kernel_rfl)
theorem in_hit (w : World) (n : B) (i : Nat) (v : ByteArray) (hf : Instr.findNow .string (.string (str n)) #[inE1, inE2, inE3, inE4, inE5, inE6, inE7].toList 0 = some (some (i, .string v))) :
    (Instr.lookup 157 (.map (some w.heap.size)) (.string (str n)) true).run Tryz.prog (w.alloc (.map #[inE1, inE2, inE3, inE4, inE5, inE6, inE7] 7)) = .ok (.tuple #[.string v, .bool true]) (w.alloc (.map #[inE1, inE2, inE3, inE4, inE5, inE6, inE7] 7)) :=
  run_look_hit (i := i) Tryz.underlying157 Tryz.underlying9 (newIn w _) (by trivial) hf true
theorem in_miss (w : World) (n : B) (hf : Instr.findNow .string (.string (str n)) #[inE1, inE2, inE3, inE4, inE5, inE6, inE7].toList 0 = some none) :
    (Instr.lookup 157 (.map (some w.heap.size)) (.string (str n)) true).run Tryz.prog (w.alloc (.map #[inE1, inE2, inE3, inE4, inE5, inE6, inE7] 7)) = .ok (.tuple #[.string ⟨#[]⟩, .bool false]) (w.alloc (.map #[inE1, inE2, inE3, inE4, inE5, inE6, inE7] 7)) :=
  run_look_miss Tryz.underlying157 Tryz.underlying9 (newIn w _) (by trivial) hf (by kernel_rfl) true
def inOk (n : B) : Bool := n == colorName || n == fontName || n == sizeName || n == edgeTop || n == edgeRight || n == edgeBottom || n == edgeLeft
def inVal (n : B) : B := if inOk n then pInitial n else []
theorem in_look (w : World) (n : B) : (Instr.lookup 157 (.map (some w.heap.size)) (.string (str n)) true).run Tryz.prog (w.alloc (.map #[inE1, inE2, inE3, inE4, inE5, inE6, inE7] 7)) = .ok (.tuple #[.string (str (inVal n)), .bool (inOk n)]) (w.alloc (.map #[inE1, inE2, inE3, inE4, inE5, inE6, inE7] 7)) := by
  by_cases h0 : n = colorName
  · subst h0
    exact in_hit w colorName 0 (str (inVal colorName)) (by kernel_rfl)
  by_cases h1 : n = fontName
  · subst h1
    exact in_hit w fontName 1 (str (inVal fontName)) (by kernel_rfl)
  by_cases h2 : n = sizeName
  · subst h2
    exact in_hit w sizeName 2 (str (inVal sizeName)) (by kernel_rfl)
  by_cases h3 : n = edgeTop
  · subst h3
    exact in_hit w edgeTop 3 (str (inVal edgeTop)) (by kernel_rfl)
  by_cases h4 : n = edgeRight
  · subst h4
    exact in_hit w edgeRight 4 (str (inVal edgeRight)) (by kernel_rfl)
  by_cases h5 : n = edgeBottom
  · subst h5
    exact in_hit w edgeBottom 5 (str (inVal edgeBottom)) (by kernel_rfl)
  by_cases h6 : n = edgeLeft
  · subst h6
    exact in_hit w edgeLeft 6 (str (inVal edgeLeft)) (by kernel_rfl)
  have hno : ∀ (l : B), n ≠ l → (str n == (⟨l.toArray⟩ : ByteArray)) = false := fun l h => by
    show (str n == str l) = false
    rw [str_beq]; exact beq_false_of_ne h
  have ho : inOk n = false := by simp [inOk, h0, h1, h2, h3, h4, h5, h6]
  have hv : inVal n = [] := by simp [inVal, ho]
  rw [ho, hv]
  refine in_miss w n ?_
  simp only [Instr.findNow, Instr.sameNow]
  rw [show (str n == (⟨#[99, 111, 108, 111, 114]⟩ : ByteArray)) = false from hno colorName h0]
  simp only []
  rw [show (str n == (⟨#[102, 111, 110, 116]⟩ : ByteArray)) = false from hno fontName h1]
  simp only []
  rw [show (str n == (⟨#[115, 105, 122, 101]⟩ : ByteArray)) = false from hno sizeName h2]
  simp only []
  rw [show (str n == (⟨#[101, 100, 103, 101, 45, 116, 111, 112]⟩ : ByteArray)) = false from hno edgeTop h3]
  simp only []
  rw [show (str n == (⟨#[101, 100, 103, 101, 45, 114, 105, 103, 104, 116]⟩ : ByteArray)) = false from hno edgeRight h4]
  simp only []
  rw [show (str n == (⟨#[101, 100, 103, 101, 45, 98, 111, 116, 116, 111, 109]⟩ : ByteArray)) = false from hno edgeBottom h5]
  simp only []
  rw [show (str n == (⟨#[101, 100, 103, 101, 45, 108, 101, 102, 116]⟩ : ByteArray)) = false from hno edgeLeft h6]
set_option maxHeartbeats 800000 in
theorem rinitial_any (n : B) (w : World) : Calls Tryz.prog 45 #[.string (str n)] w fun e w' => e = .returned (.string (str (pInitial n))) ∧ Below w.heap.size w w' := by
  have e0 := run_made (P := Tryz.prog) w 157
  have e1 := in_ins1 w
  have e2 := in_ins2 w
  have e3 := in_ins3 w
  have e4 := in_ins4 w
  have e5 := in_ins5 w
  have e6 := in_ins6 w
  have e7 := in_ins7 w
  have e8 := in_look w n
  have hb : Below w.heap.size w (w.alloc (.map #[inE1, inE2, inE3, inE4, inE5, inE6, inE7] 7)) := (Below.refl _ _).alloc (Nat.le_refl _) _
  have HB := Lib.hid hb
  clear hb
  cases ho : inOk n with
  | true =>
    rw [ho, show inVal n = pInitial n from by simp [inVal, ho]] at e8
    clear ho
    go_enter Tryz.func45, Tryz.ntmps45
    go_wp2_with fail
    go_ret
    exact ⟨rfl, HB.out⟩
  | false =>
    rw [ho] at e8
    have hp : Hid (pInitial n = [110, 111, 110, 101]) := Lib.hid (by
      simp only [inOk, Bool.or_eq_false_iff, beq_eq_false_iff_ne, ne_eq] at ho
      obtain ⟨⟨⟨⟨⟨⟨h0, h1⟩, h2⟩, h3⟩, h4⟩, h5⟩, h6⟩ := ho
      simp [pInitial, h0, h1, h2, h3, h4, h5, h6])
    clear ho
    go_enter Tryz.func45, Tryz.ntmps45
    go_wp2_with fail
    go_ret
    refine ⟨?_, HB.out⟩
    rw [hp.out]; rfl
end Go.Proofs.YtplbdlgmjehckabGreatDoor

namespace Go.Proofs.YtplbdlgmjehckabGreatDoor
open Go.RowKit
set_option linter.unusedVariables false
set_option linter.unusedSimpArgs false
theorem find_hit {look : List PDecl} {name : B} {i : Nat} {d : PDecl} (hb : ∀ (j : Nat) (y : PDecl), j < i → look[j]? = some y → (y.name == name) = false) (hx : look[i]? = some d) (hn : (d.name == name) = true) : lookFind look name = some d := by
  unfold lookFind
  obtain ⟨hk, hxx⟩ := List.getElem?_eq_some_iff.1 hx
  rw [List.find?_eq_some_iff_getElem]
  refine ⟨hn, i, hk, hxx, fun j hj => ?_⟩
  have := hb j look[j] hj (List.getElem?_eq_getElem _)
  simp [this]
theorem find_miss {look : List PDecl} {name : B} (hb : ∀ (j : Nat) (y : PDecl), look[j]? = some y → (y.name == name) = false) : lookFind look name = none := by
  unfold lookFind
  rw [List.find?_eq_none]
  intro x hx
  obtain ⟨j, hj⟩ := List.mem_iff_getElem?.1 hx
  simp [hb j x hj]
set_option maxRecDepth 100000 in
set_option maxHeartbeats 3200000 in
theorem rvalueF_any (ns : List PNode) (rs : List PRule) (hc : CaCtx ns rs) (media : List B) (name : B) : ∀ (fuel : Nat) (k : Int), k.toNat < fuel → -9223372036854775808 ≤ k ∧ k ≤ 9223372036854775807 → ∀ (m : Int) (w : World) (v rv mv : Value), NodesAt w v ns → RulesAt w rv rs → StrsAt w mv media → w.cell? ⟨0, 0, none⟩ = some (.int .i64 m) →
    Calls Tryz.prog 15 #[v, .int .i64 k, rv, mv, .string (str name)] w (VlEnds w (cValueF fuel ns k rs media name)) := by
  intro fuel
  induction fuel with
  | zero => intro k h; omega
  | succ fuel ih =>
    intro k hkf hk m w v rv mv hv hr hmv hm
    obtain ⟨R, HR⟩ : ∃ R, Hid (cValueF (fuel + 1) ns k rs media name = R) := ⟨_, Lib.hid rfl⟩
    rw [HR.out]
    have IH := Lib.hid ih
    clear ih
    obtain ⟨na, ncap, rfl, hnc1, hnc2⟩ := hv.form
    obtain ⟨ra, rcap, rfl, hrc1, hrc2⟩ := NestAt.form hr
    obtain ⟨ma, mcap, rfl, hmc1, hmc2⟩ := StrsAt.form hmv
    unfold maxLen at hnc2 hrc2 hmc2
    have HDC := rdeclared_any ns rs hc media k hk m w _ _ _ hv hr hmv hm
    obtain ⟨D, HD⟩ : ∃ x, Hid (cDeclared ns k rs media = x) := ⟨_, Lib.hid rfl⟩
    rw [HD.out] at HDC
    replace HDC := Lib.hid HDC
    have HREC : Hid (D.then (fun look => match lookFind look name with
        | some d => .ok d.val
        | none => if pInherits name && decide (0 ≤ parentOf ns k.toNat) && decide (parentOf ns k.toNat < k) then cValueF fuel ns (parentOf ns k.toNat) rs media name else .ok (pInitial name)) = R) := Lib.hid (by
      rw [← HR.out, ← HD.out]
      conv => rhs; unfold cValueF
      rfl)
    have HCC := Lib.hid hc
    have HV := Lib.hid hv
    have HRS := Lib.hid hr
    have HMV := Lib.hid hmv
    have HM := Lib.hid hm
    clear hc hv hr hmv hm
    go_enter Tryz.func15, Tryz.ntmps15
    go_wp2_with fail
    refine HDC.out.mono ?_
    intro e w1 he1
    cases D with
    | bad f =>
      obtain ⟨rfl, hk1, hne⟩ := he1
      have hneI : ((f.err : Int) != 0) = true := by simp; omega
      have hrr : Hid (R = .bad f) := Lib.hid HREC.out.symm
      have HNE := Lib.hid hne
      clear hne
      go_wp2_with fail
      refine bodyPost_ret (v := .tuple #[.string ⟨#[]⟩, .int .i64 (f.err : Int)]) (by simp [results, Tryz.results15, go_sem]) rfl ?_
      rw [hrr.out]
      exact ⟨rfl, hk1, HNE.out⟩
    | ok look =>
      obtain ⟨lv, rfl, hk1, hlv, hlf⟩ := he1
      obtain ⟨la, lc, rfl, hlc1, hlc2⟩ := DeclsAt.form hlv
      unfold maxLen at hlc2
      have hin : inR ns k = true := by
        have := HD.out
        unfold cDeclared at this
        split at this
        · assumption
        · cases this
      have hk0 : 0 ≤ k ∧ k < (ns.length : Int) := by unfold inR at hin; simpa using hin
      obtain ⟨kn, rfl⟩ : ∃ n : Nat, k = n := ⟨k.toNat, by omega⟩
      have hkl : kn < ns.length := by omega
      have hx := List.getElem?_eq_getElem hkl
      generalize hgx : ns[kn] = n at hx
      clear hgx hin
      have hrec := HREC.out
      simp only [Ans.ok_then, Int.toNat_natCast, parent_of hx] at hrec
      have HRC := Lib.hid hrec
      have HX := Lib.hid hx
      have HLV := Lib.hid hlv
      have HK1 := Lib.hid hk1
      clear hrec hx hlv hk1 HREC
      go_upto_block 0 with fail
      go_cut [] (fun wx => Hid (Kept (fun _ => False) w1 wx) ∧ Hid (lookFind look name = none))
      case first =>
        go_wp2_with fail
        go_loopw [30] (fun c wr => ∃ i : Nat, i ≤ look.length ∧ c = .int .i64 (i : Int) ∧ Hid (Kept (fun _ => False) w1 wr) ∧ Hid (∀ (j : Nat) (y : PDecl), j < i → look[j]? = some y → (y.name == name) = false)) (fun c _ => look.length - (intOf c).toNat)
        case atStart => exact ⟨0, by omega, rfl, Lib.hid (Kept.refl _ _), Lib.hid (fun j y hj => by omega)⟩
        case round =>
          obtain ⟨i, hi, rfl, HKR, HB⟩ := hrel
          obtain ⟨wr0, hwr0⟩ : ∃ x, x = wr := ⟨_, rfl⟩
          subst hwr0
          by_cases hlt : i < look.length
          · have hy := List.getElem?_eq_getElem hlt
            generalize hgy : look[i] = d at hy
            clear hgy
            have HY := Lib.hid hy
            obtain ⟨yb, yo, rfl, t0, t1, t2⟩ := DeclsAt.at (decls_firm.kept HLV.out HKR.out) hy
            obtain ⟨wb, HWB⟩ : ∃ x, Hid (wr0.alloc (.cells #[.string (str d.name), .string (str d.val), .bool d.strong] 95 (0, 0)) = x) := ⟨_, Lib.hid rfl⟩
            obtain ⟨xk, HXK⟩ : ∃ x, Hid (wr0.heap.size = x) := ⟨_, Lib.hid rfl⟩
            have hxb : wb.heap[xk]? = some (.cells #[.string (str d.name), .string (str d.val), .bool d.strong] 95 (0, 0)) := by rw [← HWB.out, ← HXK.out]; exact newIn wr0 _
            have HKB : Hid (Kept (fun _ => False) w1 wb) := Lib.hid (by rw [← HWB.out]; exact HKR.out.alloc _)
            go_upto_region 7 with fail
            rw [HWB.out, HXK.out]
            have x0 := cellIn hxb 0 rfl
            have x1 := cellIn hxb 1 rfl
            clear t0 t1 t2 hy hxb
            cases hc : (d.name == name) with
            | true =>
              have hrr : Hid (R = .ok d.val) := Lib.hid (by rw [← HRC.out, find_hit HB.out HY.out hc])
              go_wp2_with fail
              refine bodyPost_ret (v := .tuple #[.string (str d.val), .int .i64 0]) (by simp [results, Tryz.results15, go_sem]) rfl ?_
              rw [hrr.out]
              exact ⟨rfl, HK1.out.trans HKB.out⟩
            | false =>
              go_wp2_with fail
              go_roundw
              case measure => simp [intOf]; omega
              case rel =>
                refine ⟨i + 1, by omega, by go_num, HKB, Lib.hid (fun j y hj hy => ?_)⟩
                by_cases hji : j = i
                · subst hji
                  rw [HY.out] at hy; cases hy
                  exact hc
                · exact HB.out j y (by omega) hy
          · obtain rfl : i = look.length := by omega
            go_wp2_with fail
            go_meet
            case rel => exact ⟨HKR, Lib.hid (find_miss fun j y hy => HB.out j y (List.getElem?_eq_some_iff.1 hy).1 hy)⟩
      case rest =>
        obtain ⟨HKC, HNF⟩ := hcut
        obtain ⟨w2, hw2⟩ : ∃ x, x = wc := ⟨_, rfl⟩
        subst hw2
        have HKW : Hid (Kept (fun _ => False) w w2) := Lib.hid (HK1.out.trans HKC.out)
        obtain ⟨nb, noff, av, rfl, g0, g1, g2, g3, g4, g5, hav⟩ := (nodes_firm.kept HV.out HKW.out).at HX.out
        have hrc := HRC.out
        rw [HNF.out] at hrc
        have HR2 := Lib.hid hrc
        have hpb := g1
        obtain ⟨ib, HIB⟩ : ∃ x, Hid (pInherits name = x) := ⟨_, Lib.hid rfl⟩
        have HIC := rinherits_any name w2
        rw [HIB.out] at HIC
        replace HIC := Lib.hid HIC
        clear hrc g0 g2 g3 g4 g5 hav hpb
        go_wp2_with fail
        refine HIC.out.mono ?_
        rintro e w3 ⟨rfl, rfl⟩
        have hini : ∀ (w4 : World), Calls Tryz.prog 45 #[.string (str name)] w4 fun e w' => e = .returned (.string (str (pInitial name))) ∧ Below w4.heap.size w4 w' := fun w4 => rinitial_any name w4
        have HINI := Lib.hid hini
        clear hini g1
        have fin : (ib && decide (0 ≤ n.parent) && decide (n.parent < (kn : Int))) = false → Hid (R = .ok (pInitial name)) := fun hf => Lib.hid (by
          have := HR2.out
          rw [HIB.out, hf] at this
          exact this.symm)
        have FIN := Lib.hid fin
        clear fin
        cases ib with
        | false =>
          have hrr := FIN.out rfl
          go_wp2_with fail
          refine (HINI.out _).mono ?_
          rintro e w4 ⟨rfl, hb4⟩
          have HK4 := Lib.hid (HKW.out.trans (Kept.of_below hb4))
          clear hb4
          go_wp2_with fail
          refine bodyPost_ret (v := .tuple #[.string (str (pInitial name)), .int .i64 0]) (by simp [results, Tryz.results15, go_sem]) rfl ?_
          rw [hrr.out]
          exact ⟨rfl, HK4.out⟩
        | true =>
          by_cases h0 : 0 ≤ n.parent
          · by_cases h1 : n.parent < (kn : Int)
            · have HREC2 : Hid (cValueF fuel ns n.parent rs media name = R) := Lib.hid (by
                have := HR2.out
                rw [HIB.out, if_pos (by simp [h0, h1])] at this
                exact this)
              have HV3 := IH.out n.parent (by omega) (by omega) m w3 _ _ _ (nodes_firm.kept HV.out HKW.out) (rules_firm.kept HRS.out HKW.out) (strs_firm.kept HMV.out HKW.out) (HKW.out.cell id HM.out)
              rw [HREC2.out] at HV3
              replace HV3 := Lib.hid HV3
              go_wp2_with fail
              refine HV3.out.mono ?_
              intro e w4 he4
              cases R with
              | bad f =>
                obtain ⟨rfl, hk4, hne⟩ := he4
                have HK4 := Lib.hid (HKW.out.trans hk4)
                have HNE := Lib.hid hne
                clear hk4 hne
                go_wp2_with fail
                refine bodyPost_ret (v := .tuple #[.string ⟨#[]⟩, .int .i64 (f.err : Int)]) (by simp [results, Tryz.results15, go_sem]) rfl ?_
                exact ⟨rfl, HK4.out, HNE.out⟩
              | ok s =>
                obtain ⟨rfl, hk4⟩ := he4
                have HK4 := Lib.hid (HKW.out.trans hk4)
                clear hk4
                go_wp2_with fail
                refine bodyPost_ret (v := .tuple #[.string (str s), .int .i64 0]) (by simp [results, Tryz.results15, go_sem]) rfl ?_
                exact ⟨rfl, HK4.out⟩
            · have hrr := FIN.out (by simp [h1])
              go_wp2_with fail
              refine (HINI.out _).mono ?_
              rintro e w4 ⟨rfl, hb4⟩
              have HK4 := Lib.hid (HKW.out.trans (Kept.of_below hb4))
              clear hb4
              go_wp2_with fail
              refine bodyPost_ret (v := .tuple #[.string (str (pInitial name)), .int .i64 0]) (by simp [results, Tryz.results15, go_sem]) rfl ?_
              rw [hrr.out]
              exact ⟨rfl, HK4.out⟩
          · have hrr := FIN.out (by simp [h0])
            go_wp2_with fail
            refine (HINI.out _).mono ?_
            rintro e w4 ⟨rfl, hb4⟩
            have HK4 := Lib.hid (HKW.out.trans (Kept.of_below hb4))
            clear hb4
            go_wp2_with fail
            refine bodyPost_ret (v := .tuple #[.string (str (pInitial name)), .int .i64 0]) (by simp [results, Tryz.results15, go_sem]) rfl ?_
            rw [hrr.out]
            exact ⟨rfl, HK4.out⟩
end Go.Proofs.YtplbdlgmjehckabGreatDoor

namespace Go.Proofs.YtplbdlgmjehckabGreatDoor
open Go.RowKit
set_option linter.unusedVariables false
set_option linter.unusedSimpArgs false
set_option maxRecDepth 100000 in
set_option maxHeartbeats 1600000 in
theorem sameLook_any (xs : List PDecl) (w : World) (va vb : Value) (ha : DeclsAt w va xs) (hb : DeclsAt w vb xs) : Calls Tryz.prog 13 #[va, vb] w fun e w' => e = .returned (.bool true) ∧ Kept (fun _ => False) w w' := by
  obtain ⟨a, ac, rfl, ha1, ha2⟩ := DeclsAt.form ha
  obtain ⟨b, bc, rfl, hb1, hb2⟩ := DeclsAt.form hb
  unfold maxLen at ha2 hb2
  have HA := Lib.hid ha
  have HB := Lib.hid hb
  clear ha hb
  go_enter Tryz.func13, Tryz.ntmps13
  go_wp2_with fail
  go_loopw [13] (fun c wr => ∃ i : Nat, i ≤ xs.length ∧ c = .int .i64 (i : Int) ∧ Hid (Qt w wr)) (fun c _ => xs.length - (intOf c).toNat)
  case atStart => exact ⟨0, by omega, rfl, Lib.hid (Qt.refl _)⟩
  case round =>
    obtain ⟨i, hi, rfl, HQ⟩ := hrel
    obtain ⟨wr0, hwr0⟩ : ∃ x, x = wr := ⟨_, rfl⟩
    subst hwr0
    by_cases hlt : i < xs.length
    · have hx := List.getElem?_eq_getElem hlt
      generalize hgx : xs[i] = x at hx
      clear hgx
      obtain ⟨b1, o1, rfl, c0, c1, c2⟩ := DeclsAt.at (RowsAt.quiet HA.out HQ.out) hx
      obtain ⟨b2, o2, rfl, d0, d1, d2⟩ := DeclsAt.at (RowsAt.quiet HB.out HQ.out) hx
      clear hx
      go_wp2_with fail
      go_quiet (fail)
      go_wp2_with fail
      go_roundw
      case measure => simp [intOf]; omega
      case rel => exact ⟨i + 1, by omega, by go_num, Lib.hid (HQ.out.trans ⟨_, rfl⟩)⟩
    · obtain rfl : i = xs.length := by omega
      go_wp2_with fail
      go_ret
      exact ⟨rfl, HQ.out.kept _⟩
end Go.Proofs.YtplbdlgmjehckabGreatDoor

namespace Go.Proofs.YtplbdlgmjehckabGreatDoor
open Go.RowKit
set_option linter.unusedVariables false
set_option linter.unusedSimpArgs false
def errT : Ans (List PDecl) → Nat
  | .bad f => f.err
  | .ok _ => 0
def lookT : Ans (List PDecl) → List PDecl
  | .bad _ => []
  | .ok l => l
theorem dc_tells {w : World} {r : Ans (List PDecl)} {e : Ending} {w' : World} (h : DcEnds w r e w') : ∃ v, e = .returned (.tuple #[v, .int .i64 (errT r : Int)]) ∧ Kept (fun _ => False) w w' ∧ DeclsAt w' v (lookT r) := by
  cases r with
  | bad f => obtain ⟨h1, h2, _⟩ := h; exact ⟨_, h1, h2, RowsAt.nil _ _⟩
  | ok l => obtain ⟨v, h1, h2, h3, _⟩ := h; exact ⟨v, h1, h2, h3⟩
def errV : Ans B → Nat
  | .bad f => f.err
  | .ok _ => 0
def valV : Ans B → B
  | .bad _ => []
  | .ok l => l
theorem vl_tells {w : World} {r : Ans B} {e : Ending} {w' : World} (h : VlEnds w r e w') : e = .returned (.tuple #[.string (str (valV r)), .int .i64 (errV r : Int)]) ∧ Kept (fun _ => False) w w' := by
  cases r with
  | bad f => obtain ⟨h1, h2, _⟩ := h; exact ⟨h1, h2⟩
  | ok l => exact h
set_option maxRecDepth 100000 in
set_option maxHeartbeats 3200000 in
theorem cascadeTells_any (ns : List PNode) (rs : List PRule) (hc : CaCtx ns rs) (media : List B) (name : B) (k : Int) (hk : -9223372036854775808 ≤ k ∧ k ≤ 9223372036854775807) (m : Int) (w : World) (v rv mv : Value) (hv : NodesAt w v ns) (hr : RulesAt w rv rs) (hmv : StrsAt w mv media) (hm : w.cell? ⟨0, 0, none⟩ = some (.int .i64 m)) :
    Calls Tryz.prog 5 #[v, .int .i64 k, rv, mv, .string (str name)] w fun e w' => e = .returned (.bool true) ∧ Kept (fun _ => False) w w' := by
  obtain ⟨na, ncap, rfl, hnc1, hnc2⟩ := hv.form
  obtain ⟨ra, rcap, rfl, hrc1, hrc2⟩ := NestAt.form hr
  obtain ⟨ma, mcap, rfl, hmc1, hmc2⟩ := StrsAt.form hmv
  unfold maxLen at hnc2 hrc2 hmc2
  obtain ⟨D, HD⟩ : ∃ x, Hid (cDeclared ns k rs media = x) := ⟨_, Lib.hid rfl⟩
  obtain ⟨V, HVL⟩ : ∃ x, Hid (cValue ns k rs media name = x) := ⟨_, Lib.hid rfl⟩
  have H1 : Hid (∀ wx, Kept (fun _ => False) w wx → Calls Tryz.prog 11 #[.slice na ns.length ncap, .int .i64 k, .slice ra rs.length rcap, .slice ma media.length mcap] wx fun e w' => ∃ v, e = .returned (.tuple #[v, .int .i64 (errT D : Int)]) ∧ Kept (fun _ => False) wx w' ∧ DeclsAt w' v (lookT D)) := Lib.hid fun wx hkx => by
    have := declared_any ns rs hc media k hk m wx _ _ _ (nodes_firm.kept hv hkx) (rules_firm.kept hr hkx) (strs_firm.kept hmv hkx) (hkx.cell id hm)
    rw [HD.out] at this
    exact this.mono fun e w' h => dc_tells h
  have H2 : Hid (∀ wx, Kept (fun _ => False) w wx → Calls Tryz.prog 12 #[.slice na ns.length ncap, .int .i64 k, .slice ra rs.length rcap, .slice ma media.length mcap] wx fun e w' => ∃ v, e = .returned (.tuple #[v, .int .i64 (errT D : Int)]) ∧ Kept (fun _ => False) wx w' ∧ DeclsAt w' v (lookT D)) := Lib.hid fun wx hkx => by
    have := rdeclared_any ns rs hc media k hk m wx _ _ _ (nodes_firm.kept hv hkx) (rules_firm.kept hr hkx) (strs_firm.kept hmv hkx) (hkx.cell id hm)
    rw [HD.out] at this
    exact this.mono fun e w' h => dc_tells h
  have H3 : Hid (∀ wx, Kept (fun _ => False) w wx → Calls Tryz.prog 14 #[.slice na ns.length ncap, .int .i64 k, .slice ra rs.length rcap, .slice ma media.length mcap, .string (str name)] wx fun e w' => e = .returned (.tuple #[.string (str (valV V)), .int .i64 (errV V : Int)]) ∧ Kept (fun _ => False) wx w') := Lib.hid fun wx hkx => by
    have := value_any ns rs hc media name k hk m wx _ _ _ (nodes_firm.kept hv hkx) (rules_firm.kept hr hkx) (strs_firm.kept hmv hkx) (hkx.cell id hm)
    rw [HVL.out] at this
    exact this.mono fun e w' h => vl_tells h
  have H4 : Hid (∀ wx, Kept (fun _ => False) w wx → Calls Tryz.prog 15 #[.slice na ns.length ncap, .int .i64 k, .slice ra rs.length rcap, .slice ma media.length mcap, .string (str name)] wx fun e w' => e = .returned (.tuple #[.string (str (valV V)), .int .i64 (errV V : Int)]) ∧ Kept (fun _ => False) wx w') := Lib.hid fun wx hkx => by
    have := rvalueF_any ns rs hc media name (k.toNat + 1) k (by omega) hk m wx _ _ _ (nodes_firm.kept hv hkx) (rules_firm.kept hr hkx) (strs_firm.kept hmv hkx) (hkx.cell id hm)
    rw [show cValueF (k.toNat + 1) ns k rs media name = V from HVL.out] at this
    exact this.mono fun e w' h => vl_tells h
  obtain ⟨ed, HED⟩ : ∃ x, Hid ((errT D : Int) = x) := ⟨_, Lib.hid rfl⟩
  obtain ⟨ev, HEV⟩ : ∃ x, Hid ((errV V : Int) = x) := ⟨_, Lib.hid rfl⟩
  obtain ⟨sv, HSV⟩ : ∃ x, Hid (valV V = x) := ⟨_, Lib.hid rfl⟩
  rw [HED.out] at H1 H2
  rw [HEV.out, HSV.out] at H3 H4
  clear hc hk hv hr hmv hm
  go_enter Tryz.func5, Tryz.ntmps5
  go_wp2_with fail
  refine (H1.out w (Kept.refl _ w)).mono ?_
  rintro e w1 ⟨va, rfl, hk1, hl1⟩
  obtain ⟨aa, ac, rfl, hac1, hac2⟩ := DeclsAt.form hl1
  unfold maxLen at hac2
  have HK1 := Lib.hid hk1
  have HL1 := Lib.hid hl1
  clear hk1 hl1
  go_wp2_with fail
  refine (H2.out w1 HK1.out).mono ?_
  rintro e w2 ⟨vb, rfl, hk2, hl2⟩
  obtain ⟨ba, bc, rfl, hbc1, hbc2⟩ := DeclsAt.form hl2
  unfold maxLen at hbc2
  have HS := Lib.hid (sameLook_any (lookT D) w2 _ _ (decls_firm.kept HL1.out hk2) hl2)
  have HK2 := Lib.hid (HK1.out.trans hk2)
  clear hk2 hl2
  go_wp2_with fail
  refine HS.out.mono ?_
  rintro e w3 ⟨rfl, hk3⟩
  have HK3 := Lib.hid (HK2.out.trans hk3)
  clear hk3
  go_wp2_with fail
  refine (H3.out w3 HK3.out).mono ?_
  rintro e w4 ⟨rfl, hk4⟩
  have HK4 := Lib.hid (HK3.out.trans hk4)
  clear hk4
  go_wp2_with fail
  refine (H4.out w4 HK4.out).mono ?_
  rintro e w5 ⟨rfl, hk5⟩
  have HK5 := Lib.hid (HK4.out.trans hk5)
  clear hk5
  go_wp2_with fail
  go_ret
  exact ⟨rfl, HK5.out⟩
end Go.Proofs.YtplbdlgmjehckabGreatDoor

namespace Go.Proofs.YtplbdlgmjehckabGreatDoor
open Go.RowKit Go.ChangeShapes Go.WideShapes Go.ChangeAt Go.ChangeMaps
theorem own : ownKnob Tryz.prog.godebug = none := by kernel_rfl
theorem laidOut : laidOutB Tryz.prog = true := by kernel_rfl
theorem maxLen_room (W : World) (hsh : W.ShapedOpen Tryz.prog) : ∃ m, W.cell? ⟨0, 0, none⟩ = some (.int .i64 m) :=
  cell_of_shapedOpen_int (zero := #[.int .i64 0]) (t := 3) hsh (of_decide_eq_true (by kernel_rfl)) (by kernel_rfl) rfl (by kernel_rfl) (by kernel_rfl) Tryz.underlying3
def u8Cell (n : Nat) : Value := .int .u8 (n : Int)
def acceptCells : Array Value := (List.map u8Cell [128, 191, 160, 191, 128, 159, 144, 191, 128, 143, 0, 0, 0, 0, 0, 0, 0, 0, 0, 0, 0, 0, 0, 0, 0, 0, 0, 0, 0, 0, 0, 0]).toArray
def firstCells : Array Value := (List.map u8Cell Go.Pinned.utf8FirstZ).toArray
def laidIn (cs : Array Value) : Obj → Obj
  | .cells _ t frozen => .cells cs t frozen
  | o => o
noncomputable def laidWorld (os : Os) : World :=
  { World.holding Tryz.prog os ⟨#[], #[], []⟩ with heap := ((World.holding Tryz.prog os ⟨#[], #[], []⟩).heap.modify 1 (laidIn firstCells)).modify 2 (laidIn acceptCells) }
theorem bulk_bound {H : Type} {ds : List (DataW H)} (hk : Rows.uptoSmall H ds = true) : Rows.uptoBulkAll ds ≤ 1048576 := of_decide_eq_true hk
end Go.Proofs.YtplbdlgmjehckabGreatDoor

