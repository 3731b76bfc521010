/-
  Lemmas for the claims of this seat: the program's functions walked, and plain laws. In this order: FoTouch FoMap Bools FoStays FoStaysW.
-/
import Derived.Test.YtplbdlgmjehckadGreatDoorPk17
import Derived.Test.YtplbdlgmjehckadGreatDoorPk5
import Derived.Test.YtplbdlgmjehckadGreatDoorPk13
import Derived.ChangeKeysEq
import Derived.WideKeyRuns
import Derived.Test.YtplbdlgmjehckadGreatDoorPk9
import Derived.Laws.OwnMore
import Derived.Test.YtplbdlgmjehckadGreatDoorPk7
import Derived.Deep.OwnRows
import Derived.Test.YtplbdlgmjehckadGreatDoorPk22
import Derived.Deep.LoopGhost
namespace Go.Proofs.YtplbdlgmjehckadGreatDoor
open Go.RowKit
set_option linter.unusedVariables false
set_option linter.unusedSimpArgs false
theorem rows_new {w : World} {b size : Nat} {rows : List (List Value)} {cs : Array Value} {t : TypeId} {fz : Nat × Nat} (h : w.heap[b]? = some (.cells cs t fz)) (hc : cs = rows.flatten.toArray) (hl : ∀ r ∈ rows, r.length = size) {n : Nat} (hn : n = rows.length) (hm : rows.length ≤ maxLen) :
    RowsAt w size (.slice (some ⟨b, 0, none⟩) n n) rows := by
  subst hn
  refine ⟨_, _, rfl, Nat.le_refl _, hm, fun _ => ⟨_, _, rfl, fun i r hr j c hj => ?_⟩⟩
  subst hc
  rw [show 0 + i * size + j = i * size + j by omega]
  exact cellIn h _ (by rw [List.getElem?_toArray]; exact flatten_get size rows hl i r hr j c hj)
def pairCells (p : Nat × B) : List Value := [.int .i64 (p.1 : Int), .string (str p.2)]
theorem info_pair : (Tryz.prog.info? 96).map (fun i => (i.zero, i.size, i.bytes)) = some (some (.agg #[.int .i64 0, .string ⟨#[]⟩]), 2, 24) := by kernel_rfl
structure TLp (w wr : World) (v : Value) (ps : List (Nat × B)) : Prop where
  own : wr.ownsRow w.heap.size 96 2 v ps.length (ps.map pairCells).flatten
  kept : Kept (fun _ => False) w wr
theorem TLp.by_kept {w wr wx : World} {v : Value} {ps : List (Nat × B)} (h : TLp w wr v ps) (hk : Kept (fun _ => False) wr wx) : TLp w wx v ps := ⟨owns_kept h.own hk (fun _ _ => id), h.kept.trans hk⟩
theorem TLp.push {w wr : World} {ao : Option Addr} {ac : Nat} {ps : List (Nat × B)} (h : TLp w wr (.slice ao ps.length ac) ps) (p : Nat × B) (hq : ps.length ≤ 4398100000000) :
    ∃ a' c' w', (Builtin.append_ #[91, 91] 91 #[.slice ao ps.length ac, .slice (some ⟨wr.heap.size, 0, none⟩) 1 1]).run Tryz.prog (wr.alloc (.cells #[.int .i64 (p.1 : Int), .string (str p.2)] 96 (0, 0))) = .ok (.slice a' (ps.length + 1) c') w' ∧ TLp w w' (.slice a' (ps.length + 1) c') (ps ++ [p]) ∧
      ∀ kk o, ¬ (Value.slice ao ps.length ac).ownBlock = some kk → wr.heap[kk]? = some o → w'.heap[kk]? = some o := by
  obtain ⟨i0, hi0, hz0, hz1, hz2⟩ := info_parts info_pair
  obtain ⟨wa, HWA⟩ : ∃ x, wr.alloc (.cells #[.int .i64 (p.1 : Int), .string (str p.2)] 96 (0, 0)) = x := ⟨_, rfl⟩
  have hb : wa.heap[wr.heap.size]? = some (.cells #[.int .i64 (p.1 : Int), .string (str p.2)] 96 (0, 0)) := by rw [← HWA]; exact newIn wr _
  have hka : Kept (fun _ => False) wr wa := by rw [← HWA]; exact (Kept.refl _ wr).alloc _
  obtain ⟨h2, hk⟩ := h.by_kept hka
  obtain ⟨a', c', w', hr', ho', k', _⟩ := append_any (P := Tryz.prog) wa 91 91 w.heap.size 96 i0 _ 2 24 Tryz.underlying91 hi0 hz0 hz1 hz2 rfl (by omega) ao ps.length ac _ h2 (some ⟨wr.heap.size, 0, none⟩) 1 1 [pairCells p] (rows_new hb rfl (by simp [pairCells]) rfl (by simp [maxLen])) (by simp [pairCells]) (by simp [pairCells, Value.oneCell']) (by unfold maxLen; omega) (by omega) hk.size
  rw [HWA]
  refine ⟨a', c', w', hr', ⟨?_, hk.trans' k' (fun i hi hx => ?_)⟩, fun kk o hn hh => k'.heap hn (hka.heap id hh)⟩
  · rw [List.length_append, List.map_append, List.flatten_append]
    exact ho'
  · have := (h2.lt i hx).1; omega
def touchUpto (ns : List PNode) (r : PRule) (i : Nat) : List (Nat × B) := (List.range i).flatMap (touchAt ns r)
theorem touch_step (ns : List PNode) (r : PRule) (i : Nat) : touchUpto ns r (i + 1) = touchUpto ns r i ++ touchAt ns r i := by
  unfold touchUpto; rw [List.range_succ, List.flatMap_append]; simp
theorem touch_len (ns : List PNode) (r : PRule) : ∀ i, (touchUpto ns r i).length ≤ i * (plainOf r).length
  | 0 => by simp [touchUpto]
  | i + 1 => by
    have := touch_len ns r i
    rw [touch_step, List.length_append, Nat.succ_mul]
    have h2 : (touchAt ns r i).length ≤ (plainOf r).length := by unfold touchAt; split <;> simp
    omega
set_option maxRecDepth 100000 in
set_option maxHeartbeats 6400000 in
theorem touches_any (ns : List PNode) (hns : MtCtx ns) (r : PRule) (hft : FewTests r.sels) (hev : ∀ d ∈ r.decls, d.val.length ≤ 1048576) (hed : r.decls.length ≤ 1048576) (m : Int) (w : World) (v u : Value) (b o : Nat) (hv : NodesAt w v ns) (hcs : ∀ (j : Nat) (c : Value), (ruleCells r u)[j]? = some c → w.cell? ⟨b, o + j, none⟩ = some c) (hru : RuleAt w u r) (hm : w.cell? ⟨0, 0, none⟩ = some (.int .i64 m)) :
    Calls Tryz.prog 29 #[v, .pointer (some ⟨b, o, none⟩)] w fun e w' => ∃ pv base, e = .returned pv ∧ Kept (fun _ => False) w w' ∧ w.heap.size ≤ base ∧ w'.ownsRow base 96 2 pv (touches ns r).length ((touches ns r).map pairCells).flatten := by
  obtain ⟨na, ncap, rfl, hnc1, hnc2⟩ := hv.form
  unfold maxLen at hnc2
  have HRU := Lib.hid hru
  obtain ⟨sv, dv, rfl, hss, hds⟩ := hru
  obtain ⟨sa, sc, rfl, hsc1, hsc2⟩ := NestAt.form hss
  obtain ⟨da, dc, rfl, hdc1, hdc2⟩ := DeclsAt.form hds
  unfold maxLen at hsc2 hdc2
  have c0 : w.cell? ⟨b, o, none⟩ = some (.string (str r.media)) := hcs 0 _ rfl
  have c1 : w.cell? ⟨b, o + 1, none⟩ = some (.slice sa r.sels.length sc) := hcs 1 _ rfl
  have c2 : w.cell? ⟨b, o + 2, none⟩ = some (.slice da r.decls.length dc) := hcs 2 _ rfl
  have c3 : w.cell? ⟨b, o + 3, none⟩ = some (.int .i64 r.lo) := hcs 3 _ rfl
  have c4 : w.cell? ⟨b, o + 4, none⟩ = some (.int .i64 r.hi) := hcs 4 _ rfl
  have hfew := hns.few
  have HNS := Lib.hid hns
  have HFT := Lib.hid hft
  have HV := Lib.hid hv
  have HM := Lib.hid hm
  obtain ⟨dl, HDL⟩ : ∃ x, Hid (plainOf r = x) := ⟨_, rfl⟩
  have hdlen : dl.length ≤ 4194304 := by
    rw [← HDL.out]; unfold plainOf
    cases hp : pAll r.decls with
    | none => simp
    | some d => have := pAll_len hp; simp; omega
  have HAA : Hid (Calls Tryz.prog 22 #[.slice da r.decls.length dc] w fun e w' => ∃ xa xc er, e = .returned (.tuple #[.slice xa dl.length xc, .int .i64 er]) ∧ Kept (fun _ => False) w w' ∧ DeclsAt w' (.slice xa dl.length xc) dl) := Lib.hid (by
    refine (all_any w _ r.decls hds (by omega) hev m hm).mono fun e w' he => ?_
    rw [← HDL.out]; unfold plainOf
    cases hp : pAll r.decls with
    | none =>
      rw [hp] at he
      exact ⟨none, 0, 5, he.1, Kept.of_below he.2, RowsAt.nil _ _⟩
    | some d =>
      rw [hp] at he
      obtain ⟨xv, h1, h2, h3⟩ := he
      obtain ⟨xa, xc, rfl, _, _⟩ := DeclsIn.form h3
      exact ⟨xa, xc, 0, h1, Kept.of_below h2, h3.1⟩)
  clear hns hft hv hcs hss hds hm hev
  go_enter Tryz.func29, Tryz.ntmps29
  go_wp2_with fail
  refine HAA.out.mono ?_
  rintro e w2 ⟨xa, xc, er, rfl, hk2, hx2⟩
  obtain ⟨_, _, he, hxc1, hxc2⟩ := DeclsAt.form hx2
  cases he
  unfold maxLen at hxc2
  have HK2 := Lib.hid hk2
  have HX2 := Lib.hid hx2
  clear hk2 hx2
  go_wp2_with fail
  go_loopw [5, 23] (fun v c wr => ∃ i : Nat, i ≤ ns.length ∧ c = .int .i64 (i : Int) ∧ Hid (TLp w2 wr v (touchUpto ns r i))) (fun _ c _ => ns.length - (intOf c).toNat)
  case atStart => exact ⟨0, by omega, rfl, Lib.hid ⟨World.ownsRow_nil _ _ _ _, Kept.refl _ _⟩⟩
  case round =>
    obtain ⟨i, hi, rfl, HL⟩ := hrel
    obtain ⟨wr0, hwr0⟩ : ∃ x, x = wr := ⟨_, rfl⟩
    subst hwr0
    obtain ⟨vo, vc, rfl⟩ := owns_form HL.out.own
    by_cases hlt : i < ns.length
    · have HST := Lib.hid (touch_step ns r i)
      have hql := touch_len ns r i
      have hqb : (touchUpto ns r i).length ≤ 4398046511104 := by
        rw [HDL.out] at hql
        have : i * dl.length ≤ 1048576 * 4194304 := Nat.mul_le_mul (by omega) hdlen
        omega
      have HKW := Lib.hid (HK2.out.trans HL.out.kept)
      have d0 := HKW.out.cell id c0
      have d1 := HKW.out.cell id c1
      have d2 := HKW.out.cell id c2
      have d3 := HKW.out.cell id c3
      have d4 := HKW.out.cell id c4
      obtain ⟨⟨⟨ya, yb, yc⟩, ok⟩, HBS⟩ : ∃ x, Hid (mBest ns (i : Int) r.sels = x) := ⟨_, rfl⟩
      have HCB : Hid (Calls Tryz.prog 51 #[.slice na ns.length ncap, .int .i64 (i : Int), .agg #[.string (str r.media), .slice sa r.sels.length sc, .slice da r.decls.length dc, .int .i64 r.lo, .int .i64 r.hi]] wr0 fun e w' => e = .returned (.tuple #[.agg #[.int .i64 (ya : Int), .int .i64 (yb : Int), .int .i64 (yc : Int)], .bool ok]) ∧ Kept (fun _ => False) wr0 w') := Lib.hid (by
        have := best_any ns HNS.out r (.tuple #[.slice sa r.sels.length sc, .slice da r.decls.length dc]) m wr0 _ (i : Int) (nodes_firm.kept HV.out HKW.out) (rule_firm.kept HRU.out HKW.out) HFT.out (by omega) (HKW.out.cell id HM.out)
        rw [HBS.out] at this
        exact this)
      clear hql
      go_wp2_with fail
      refine HCB.out.mono ?_
      rintro e w3 ⟨rfl, hk3⟩
      go_upto_region 7 with fail
      obtain ⟨wa, HWA⟩ : ∃ x, Hid (w3.alloc (.cells #[.int .i64 (ya : Int), .int .i64 (yb : Int), .int .i64 (yc : Int)] 126 (0, 0)) = x) := ⟨_, rfl⟩
      have HLA : Hid (TLp w2 wa (.slice vo (touchUpto ns r i).length vc) (touchUpto ns r i)) := Lib.hid (HL.out.by_kept (by rw [← HWA.out]; exact hk3.alloc _))
      rw [HWA.out]
      clear d0 d1 d2 d3 d4 hk3
      cases ok with
      | false =>
        have hsk : Hid (touchUpto ns r (i + 1) = touchUpto ns r i) := Lib.hid (by rw [HST.out]; unfold touchAt; rw [HBS.out]; simp)
        go_wp2_with fail
        go_roundw
        case measure => simp [intOf]; omega
        case rel => exact ⟨i + 1, by omega, by go_num, Lib.hid (by rw [hsk.out]; exact HLA.out)⟩
      | true =>
        have hsk : Hid (touchUpto ns r (i + 1) = touchUpto ns r i ++ dl.map fun d => (i, d.name)) := Lib.hid (by rw [HST.out]; unfold touchAt; rw [HBS.out, HDL.out]; simp)
        generalize touchUpto ns r i = q0 at *
        go_wp2_with fail
        go_loopw [5, 39] (fun v c wx => ∃ j : Nat, j ≤ dl.length ∧ c = .int .i64 (j : Int) ∧ Hid (TLp w2 wx v (q0 ++ (dl.take j).map fun d => (i, d.name)))) (fun _ c _ => dl.length - (intOf c).toNat)
        case atStart => exact ⟨0, by omega, rfl, Lib.hid (by simpa using HLA.out)⟩
        case round =>
          obtain ⟨j, hj, rfl, HI⟩ := hrel
          obtain ⟨wr1, hwr1⟩ : ∃ x, x = wr := ⟨_, rfl⟩
          subst hwr1
          obtain ⟨ao, ac, rfl⟩ := owns_form HI.out.own
          by_cases hjlt : j < dl.length
          · have hy := List.getElem?_eq_getElem hjlt
            generalize hgy : dl[j] = x at hy
            clear hgy
            obtain ⟨db, doff, rfl, t0, t1, t2⟩ := DeclsAt.at (RowsAt.below HX2.out HI.out.kept.below) hy
            have hnx : Hid ((q0 ++ (dl.take (j + 1)).map fun d => (i, d.name)) = (q0 ++ (dl.take j).map fun d => (i, d.name)) ++ [(i, x.name)]) := Lib.hid (by rw [List.take_add_one, hy, Option.toList_some]; simp)
            have hle : (q0 ++ (dl.take j).map fun d => (i, d.name)).length ≤ 4398100000000 := by simp; omega
            generalize (q0 ++ (dl.take j).map fun d => (i, d.name)) = q1 at *
            go_upto_region 11 with fail
            obtain ⟨wd, HWD⟩ : ∃ x', Hid (wr1.alloc (.cells #[.string (str x.name), .string (str x.val), .bool x.strong] 98 (0, 0)) = x') := ⟨_, rfl⟩
            have f0 : wd.cell? ⟨wr1.heap.size, 0, none⟩ = some (.string (str x.name)) := by rw [← HWD.out]; exact cellIn (newIn wr1 _) 0 rfl
            have HID : Hid (TLp w2 wd (.slice ao q1.length ac) q1) := Lib.hid (HI.out.by_kept (by rw [← HWD.out]; exact (Kept.refl _ wr1).alloc _))
            obtain ⟨a', c', w', hr', hl', _⟩ := HID.out.push (i, x.name) hle
            have HR' := Lib.hid hr'
            have HL' := Lib.hid hl'
            rw [HWD.out]
            clear t0 t1 t2 hy hr' hl'
            go_wp2_with (at_builtin; refine wpList_append_eq (by rfl) _ _ _ rfl _ _ _ rfl rfl _ HR'.out ?_)
            go_roundw
            case measure => simp [intOf]; omega
            case rel => exact ⟨j + 1, by omega, by go_num, Lib.hid (by rw [hnx.out]; exact HL'.out)⟩
          · obtain rfl : j = dl.length := by omega
            have hfin : Hid (TLp w2 wr1 (.slice ao (q0 ++ (dl.take dl.length).map fun d => (i, d.name)).length ac) (touchUpto ns r (i + 1))) := Lib.hid (by
              rw [hsk.out]
              have h1 := HI.out
              rw [List.take_length] at h1 ⊢
              exact h1)
            go_wp2_with fail
            go_roundw
            case measure => simp [intOf]; omega
            case rel => exact ⟨i + 1, by omega, by go_num, hfin⟩
    · obtain rfl : i = ns.length := by omega
      go_wp2_with fail
      go_ret
      exact ⟨_, w2.heap.size, rfl, HK2.out.trans HL.out.kept, HK2.out.size, HL.out.own⟩
end Go.Proofs.YtplbdlgmjehckadGreatDoor

namespace Go.Proofs.YtplbdlgmjehckadGreatDoor
open Go.RowKit
set_option linter.unusedVariables false
set_option linter.unusedSimpArgs false
def pairV (p : Nat × B) : Value := .agg #[.int .i64 (p.1 : Int), .string (str p.2)]
theorem str_beq (a b : B) : ((str a).toList == (str b).toList) = decide (a = b) := by
  rw [Bool.eq_iff_iff]
  simp only [beq_iff_eq, decide_eq_true_eq]
  constructor
  · intro h
    have e : ∀ x : B, (str x).toList = x := fun x => by rw [ByteArray.toList_eq]; rfl
    rw [e, e] at h; exact h
  · rintro rfl; rfl
theorem two_of {fs : List Field} {x y : String × TypeId × Nat} (h : fs.map (fun f => (f.name, f.type, f.offset)) = [x, y]) : ∃ f0 f1, fs = [f0, f1] := by
  cases fs with
  | nil => cases h
  | cons a t =>
    cases t with
    | nil => cases h
    | cons b u =>
      cases u with
      | nil => exact ⟨a, b, rfl⟩
      | cons c v => cases h
theorem plain_int' : Tryz.prog.plainKey 3 = true := by kernel_rfl
theorem plain_string' : Tryz.prog.plainKey 9 = true := by kernel_rfl
theorem eq_pair (p q : Nat × B) (w : World) : (Op.equalIn 10000 96 (pairV p) (pairV q)).run Tryz.prog w = .ok (decide (p = q)) w := by
  have hs : Tryz.prog.stoodInHeld 96 = false := by kernel_rfl
  have hf : (Tryz.prog.fieldsOf 96).toList.map (fun f => (f.name, f.type, f.offset)) = [("node", 3, 0), ("name", 9, 1)] := by kernel_rfl
  have hu : Tryz.prog.underlying 96 = some (.struct (Tryz.prog.fieldsOf 96)) := by kernel_rfl
  unfold pairV
  rw [run_equalIn_struct w 9999 _ _ _ hu hs]
  revert hf
  generalize (Tryz.prog.fieldsOf 96).toList = fs
  intro hf
  obtain ⟨f0, f1, rfl⟩ := two_of hf
  · simp only [List.map_cons, List.map_nil, List.cons.injEq, Prod.mk.injEq, and_true] at hf
    obtain ⟨⟨n0, t0, o0⟩, n1, t1, o1⟩ := hf
    have q1 : ∀ a b : Int, (Op.equalIn 9999 3 (.int .i64 a) (.int .i64 b)).run Tryz.prog w = .ok (a == b) w := fun a b => run_equalIn_int w 9998 3 .i64 .i64 a b Tryz.underlying3
    have q2 : ∀ a b : ByteArray, (Op.equalIn 9999 9 (.string a) (.string b)).run Tryz.prog w = .ok (a.toList == b.toList) w := fun a b => run_equalIn_string w 9998 9 a b Tryz.underlying9
    have x0 := run_part_plain w plain_int' (xs := #[.int .i64 (p.1 : Int), .string (str p.2)]) (off := 0) (v := .int .i64 (p.1 : Int)) rfl
    have x1 := run_part_plain w plain_string' (xs := #[.int .i64 (p.1 : Int), .string (str p.2)]) (off := 1) (v := .string (str p.2)) rfl
    have y0 := run_part_plain w plain_int' (xs := #[.int .i64 (q.1 : Int), .string (str q.2)]) (off := 0) (v := .int .i64 (q.1 : Int)) rfl
    have y1 := run_part_plain w plain_string' (xs := #[.int .i64 (q.1 : Int), .string (str q.2)]) (off := 1) (v := .string (str q.2)) rfl
    obtain ⟨pa, pb⟩ := p
    obtain ⟨qa, qb⟩ := q
    have e : ∀ a b : Nat, ((a : Int) == (b : Int)) = decide (a = b) := fun a b => by
      by_cases h : a = b
      · simp [h]
      · simp [h]; omega
    have n0' : f0.name ≠ "_" := by rw [n0]; decide
    have n1' : f1.name ≠ "_" := by rw [n1]; decide
    simp only at x0 x1 y0 y1
    simp only [Op.eqFields, Sem.run_bind, if_pos n0', if_pos n1', t0, o0, t1, o1, x0, y0, q1, q2, Result.andThen_ok, e, str_beq]
    by_cases h1 : pa = qa
    · subst h1
      simp only [decide_true, Bool.not_true, Bool.false_eq_true, if_false, Sem.run_bind, Result.andThen_ok, x1, y1, q2, str_beq]
      by_cases h2 : pb = qb <;> simp [h2]
    · simp [h1]
theorem check_pair (p : Nat × B) (em : Bool) (w : World) : (Instr.checkKey em 10000 96 (pairV p)).run Tryz.prog w = .ok () w := by
  have hf : (Tryz.prog.fieldsOf 96).toList.map (fun f => (f.name, f.type, f.offset)) = [("node", 3, 0), ("name", 9, 1)] := by kernel_rfl
  have hu : Tryz.prog.underlying 96 = some (.struct (Tryz.prog.fieldsOf 96)) := by kernel_rfl
  have x0 := run_part_plain w plain_int' (xs := #[.int .i64 (p.1 : Int), .string (str p.2)]) (off := 0) (v := .int .i64 (p.1 : Int)) rfl
  have x1 := run_part_plain w plain_string' (xs := #[.int .i64 (p.1 : Int), .string (str p.2)]) (off := 1) (v := .string (str p.2)) rfl
  have k0 : ∀ n, (Instr.checkKey em (n + 1) 3 (.int .i64 (p.1 : Int))).run Tryz.prog w = .ok () w := fun n => by
    simp [Instr.checkKey, run_underlying Tryz.underlying3]
  have k1 : ∀ n, (Instr.checkKey em (n + 1) 9 (.string (str p.2))).run Tryz.prog w = .ok () w := fun n => by
    simp [Instr.checkKey, run_underlying Tryz.underlying9]
  have main : ∀ n, (Instr.checkKey em (n + 2) 96 (.agg #[.int .i64 (p.1 : Int), .string (str p.2)])).run Tryz.prog w = .ok () w := by
    intro n
    rw [show n + 2 = (n + 1) + 1 from rfl, Instr.checkKey]
    simp only [Sem.run_bind, run_underlying hu, Result.andThen_ok]
    rw [← Array.forIn_toList]
    revert hf
    generalize (Tryz.prog.fieldsOf 96).toList = fs
    intro hf
    obtain ⟨f0, f1, rfl⟩ := two_of hf
    simp only [List.map_cons, List.map_nil, List.cons.injEq, Prod.mk.injEq, and_true] at hf
    obtain ⟨⟨n0, t0, o0⟩, n1, t1, o1⟩ := hf
    have n0' : f0.name ≠ "_" := by rw [n0]; decide
    have n1' : f1.name ≠ "_" := by rw [n1]; decide
    simp only [List.forIn_cons, List.forIn_nil, Sem.run_bind, Sem.run_ite, if_pos n0', if_pos n1', t0, o0, t1, o1, x0, x1, k0, k1, Result.andThen_ok, Sem.run_pure]
  exact main 9998
def PairMap (w : World) (b : Nat) (ms : List (Nat × B)) : Prop := ∃ es c, w.heap[b]? = some (.map es c) ∧ es.toList.map (fun x => (x.key, x.val)) = ms.map fun p => (pairV p, .bool true)
theorem PairMap.made (w : World) : PairMap (w.alloc (.map #[] 0)) w.heap.size [] := ⟨#[], 0, newIn w _, rfl⟩
theorem PairMap.kept {S : Nat → Prop} {w w' : World} {b : Nat} {ms : List (Nat × B)} (h : PairMap w b ms) (hk : Kept S w w') (hs : ¬ S b) : PairMap w' b ms := by
  obtain ⟨es, c, h1, h2⟩ := h
  exact ⟨es, c, hk.heap hs h1, h2⟩
theorem PairMap.lt {w : World} {b : Nat} {ms : List (Nat × B)} (h : PairMap w b ms) : b < w.heap.size := by
  obtain ⟨es, c, h1, _⟩ := h
  exact ltIn h1
theorem asking_pair (p : Nat × B) (w : World) : ∀ (es : List MapEntry) (ms : List (Nat × B)) (i : Nat), es.map (fun x => (x.key, x.val)) = ms.map (fun p => (pairV p, .bool true)) →
    (p ∉ ms ∧ (Instr.findAsking 96 (pairV p) es i).run Tryz.prog w = .ok none w) ∨ (p ∈ ms ∧ ∃ j, (Instr.findAsking 96 (pairV p) es i).run Tryz.prog w = .ok (some (j, .bool true)) w)
  | [], [], i, _ => .inl ⟨by simp, by simp [Instr.findAsking]⟩
  | e :: es, m :: ms, i, h => by
    simp only [List.map_cons, List.cons.injEq, Prod.mk.injEq] at h
    obtain ⟨⟨hk, hv⟩, ht⟩ := h
    have he : (Op.equal 96 (pairV p) e.key).run Tryz.prog w = .ok (decide (p = m)) w := by rw [hk]; exact eq_pair p m w
    by_cases hp : p = m
    · right
      subst hp
      refine ⟨by simp, i, ?_⟩
      simp [Instr.findAsking, he, hv]
    · rcases asking_pair p w es ms (i + 1) ht with ⟨h1, h2⟩ | ⟨h1, j, h2⟩
      · exact .inl ⟨by simp [hp, h1], by simp [Instr.findAsking, he, hp, h2]⟩
      · exact .inr ⟨by simp [h1], j, by simp [Instr.findAsking, he, hp, h2]⟩
theorem find_pair (p : Nat × B) (w : World) (es : List MapEntry) : (Instr.findKey 96 (pairV p) es).run Tryz.prog w = (Instr.findAsking 96 (pairV p) es).run Tryz.prog w := by
  refine run_findKey_eq w ?_ (pairV p) es
  rw [Tryz.underlying96]
theorem zero_bool (w : World) : (zeroValue 4).run Tryz.prog w = .ok (.bool false) w := by
  obtain ⟨i0, hi0, hz0, hz1, hz2⟩ := info_parts (show (Tryz.prog.info? 4).map (fun i => (i.zero, i.size, i.bytes)) = some (some (.bool false), 1, 1) by kernel_rfl)
  simp [zeroValue, run_typeInfo w hi0, hz0, Result.andThen]
theorem PairMap.look {w : World} {b : Nat} {ms : List (Nat × B)} (h : PairMap w b ms) (p : Nat × B) :
    (Instr.lookup 89 (.map (some b)) (pairV p) false).run Tryz.prog w = .ok (.bool (decide (p ∈ ms))) w := by
  obtain ⟨es, c, hb, he⟩ := h
  rcases asking_pair p w es.toList ms 0 he with ⟨h1, h2⟩ | ⟨h1, j, h2⟩
  · simp [Instr.lookup, run_underlying Tryz.underlying89, MapKept.run_getObj_map hb, check_pair, find_pair, h2, zero_bool, h1, Result.andThen]
  · simp [Instr.lookup, run_underlying Tryz.underlying89, MapKept.run_getObj_map hb, check_pair, find_pair, h2, h1, Result.andThen]
theorem PairMap.add {w : World} {b : Nat} {ms : List (Nat × B)} (h : PairMap w b ms) (p : Nat × B) (hp : p ∉ ms) :
    ∃ w', (Instr.mapUpdate 89 (.map (some b)) (pairV p) (.bool true)).run Tryz.prog w = .ok () w' ∧ PairMap w' b (ms ++ [p]) ∧ Kept (· = b) w w' ∧ w'.heap.size = w.heap.size := by
  obtain ⟨es, c, hb, he⟩ := h
  rcases asking_pair p w es.toList ms 0 he with ⟨h1, h2⟩ | ⟨h1, j, h2⟩
  · refine ⟨{ w with heap := w.heap.setIfInBounds b (.map (es.push ⟨pairV p, .bool true, c⟩) (c + 1)) }, ?_, ⟨_, _, (MapKept.heap_set hb).1, ?_⟩, kept_setHeap _, by simp⟩
    · simp [Instr.mapUpdate, run_underlying Tryz.underlying89, MapKept.run_getObj_map hb, check_pair, find_pair, h2, MapKept.run_setObj_map _ hb, Result.andThen]
    · simp [he]
  · exact absurd h1 hp
end Go.Proofs.YtplbdlgmjehckadGreatDoor

namespace Go.Proofs.YtplbdlgmjehckadGreatDoor
open Go.RowKit
set_option linter.unusedVariables false
set_option linter.unusedSimpArgs false
def BoolsAt (w : World) (b : Nat) (l : List Bool) : Prop := w.heap[b]? = some (.cells (l.map Value.bool).toArray 4 (0, 0))
theorem BoolsAt.cell {w : World} {b : Nat} {l : List Bool} (h : BoolsAt w b l) {k : Nat} {x : Bool} (hk : l[k]? = some x) : w.cell? ⟨b, k, none⟩ = some (.bool x) := cellIn h k (by simp [hk])
theorem BoolsAt.free {w : World} {b : Nat} {l : List Bool} (h : BoolsAt w b l) (k : Nat) : w.frozen? ⟨b, k, none⟩ = false := freeIn h k
theorem BoolsAt.put {w : World} {b : Nat} {l : List Bool} (h : BoolsAt w b l) (k : Nat) (x : Bool) : BoolsAt (w.setCell ⟨b, k, none⟩ (.bool x)) b (l.set k x) := by
  have := setIn h k (.bool x)
  rw [show ((l.map Value.bool).toArray).setIfInBounds k (.bool x) = ((l.set k x).map Value.bool).toArray from by rw [List.setIfInBounds_toArray, List.map_set]] at this
  exact this
theorem BoolsAt.kept {w w' : World} {b : Nat} {l : List Bool} {S : Nat → Prop} (h : BoolsAt w b l) (hk : Kept S w w') (hs : ¬ S b) : BoolsAt w' b l := hk.heap hs h
theorem info_bool : (Tryz.prog.info? 4).map (fun i => (i.zero, i.size, i.bytes)) = some (some (.bool false), 1, 1) := by kernel_rfl
theorem bools_new (w : World) (n : Nat) (hn : n ≤ 281474976710656) : ∃ w', (Instr.makeSlice 42 (.int .i64 (n : Int)) (.int .i64 (n : Int))).run Tryz.prog w = .ok (.slice (some ⟨w.heap.size, 0, none⟩) n n) w' ∧ BoolsAt w' w.heap.size (List.replicate n false) ∧ Kept (fun _ => False) w w' := by
  obtain ⟨i, hi, hz0, hz1, hz2⟩ := info_parts info_bool
  obtain ⟨w', h1, h2, h3⟩ := run_make_full (P := Tryz.prog) w w.heap.size 42 4 i (.bool false) 1 Tryz.underlying42 hi hz0 hz1 .i64 .i64 n (by rw [hz2]; omega) (by unfold maxLen; omega) (Nat.le_refl _)
  refine ⟨w', h1, ?_, (Kept.refl _ w).grown h3 (fun k hk => by cases hk)⟩
  rcases h2.2 with ⟨hx, _⟩ | ⟨g, cap, cur, hv, hb, hg, hnc, hcm, hcs, htake⟩
  · cases hx
  · cases hv
    unfold BoolsAt
    have hcl : cur.toList.length = n * 1 := by simpa using hcs
    rw [List.take_of_length_le (by omega)] at htake
    have : cur = (List.map Value.bool (List.replicate n false)).toArray := by
      apply Array.ext'
      rw [htake]
      have e : (Value.bool false).cells = #[.bool false] := rfl
      rw [e]
      apply List.ext_getElem
      · simp [size_madeCells]
      · intro j h5 h6
        simp [madeCells, Nat.mod_one]
    rw [← this]; exact hg
end Go.Proofs.YtplbdlgmjehckadGreatDoor

namespace Go.Proofs.YtplbdlgmjehckadGreatDoor
open Go.RowKit
set_option linter.unusedVariables false
set_option linter.unusedSimpArgs false
def PairsAt (w : World) (v : Value) (ps : List (Nat × B)) : Prop := RowsAt w 2 v (ps.map pairCells)
theorem pairs_of_owns {w : World} {base : Nat} {v : Value} {ps : List (Nat × B)} (h : w.ownsRow base 96 2 v ps.length (ps.map pairCells).flatten) : PairsAt w v ps :=
  rowsAt_of_owns (fun r hr => by obtain ⟨a, _, rfl⟩ := List.mem_map.1 hr; rfl) (by simp) h
theorem PairsAt.form {w : World} {v : Value} {ps : List (Nat × B)} (h : PairsAt w v ps) : ∃ a cap, v = .slice a ps.length cap ∧ ps.length ≤ cap ∧ cap ≤ maxLen := by
  obtain ⟨a, cap, e, h1, h2, _⟩ := h
  exact ⟨a, cap, by rw [e]; simp, by simpa using h1, h2⟩
theorem PairsAt.at {w : World} {a : Option Addr} {n cap : Nat} {ps : List (Nat × B)} (h : PairsAt w (.slice a n cap) ps) {k : Nat} {p : Nat × B} (hx : ps[k]? = some p) :
    ∃ b off, a = some ⟨b, off, none⟩ ∧ w.cell? ⟨b, off + k * 2, none⟩ = some (.int .i64 (p.1 : Int)) ∧ w.cell? ⟨b, off + k * 2 + 1, none⟩ = some (.string (str p.2)) := by
  obtain ⟨b, off, ha, h5⟩ := RowsAt.at h (k := k) (r := pairCells p) (by simp [hx])
  exact ⟨b, off, ha, h5 0 _ rfl, h5 1 _ rfl⟩
set_option maxHeartbeats 800000 in
theorem blocked_any (p : Nat × B) (w : World) (tb mb : Nat) (ms : List (Nat × B)) (hc : w.cell? ⟨tb, 0, none⟩ = some (.map (some mb))) (hm : PairMap w mb ms) :
    Calls Tryz.prog 31 #[.agg #[.int .i64 (p.1 : Int), .string (str p.2)], .pointer (some ⟨tb, 0, none⟩)] w fun e w' => e = .returned (.bool (decide (p ∈ ms))) ∧ Below w.heap.size w w' := by
  go_enter Tryz.func31, Tryz.ntmps31
  go_upto_region 1 with fail
  obtain ⟨wa, HWA⟩ : ∃ x, Hid (w.alloc (.cells #[.int .i64 (p.1 : Int), .string (str p.2)] 96 (0, 0)) = x) := ⟨_, rfl⟩
  have c0 : wa.cell? ⟨w.heap.size, 0, none⟩ = some (.int .i64 (p.1 : Int)) := by rw [← HWA.out]; exact cellIn (newIn w _) 0 rfl
  have c1 : wa.cell? ⟨w.heap.size, 1, none⟩ = some (.string (str p.2)) := by rw [← HWA.out]; exact cellIn (newIn w _) 1 rfl
  have hk : Kept (fun _ => False) w wa := by rw [← HWA.out]; exact (Kept.refl _ w).alloc _
  have d0 := hk.cell id hc
  have hl := (hm.kept hk id).look p
  unfold pairV at hl
  have HK := Lib.hid hk
  rw [HWA.out]
  clear hc hm hk
  go_wp2
  go_ret
  exact ⟨rfl, HK.out.below⟩
set_option maxHeartbeats 1600000 in
theorem idxBlocked_any (v : Value) (ps : List (Nat × B)) (w : World) (tb mb : Nat) (ms : List (Nat × B)) (hv : PairsAt w v ps) (hc : w.cell? ⟨tb, 0, none⟩ = some (.map (some mb))) (hm : PairMap w mb ms) :
    Calls Tryz.prog 52 #[v, .func (.func 31) #[] #[.pointer (some ⟨tb, 0, none⟩)]] w fun e w' => ∃ r : Int, e = .returned (.int .i64 r) ∧ decide (0 ≤ r) = (ps.any fun p => decide (p ∈ ms)) ∧ Below w.heap.size w w' := by
  have HV := Lib.hid hv
  have HC := Lib.hid hc
  have HM := Lib.hid hm
  obtain ⟨a, cap, rfl, hle, hcap⟩ := hv.form
  unfold maxLen at hcap
  clear hv hc hm
  go_enter Tryz.func52, Tryz.ntmps52
  go_wp2
  go_loopw [8] (fun i wr => ∃ k : Nat, k ≤ ps.length ∧ i = .int .i64 k ∧ Below w.heap.size w wr ∧ Hid (∀ j y, j < k → ps[j]? = some y → y ∉ ms)) (fun i _ => ps.length - (intOf i).toNat)
  case atStart => exact ⟨0, by omega, rfl, Below.refl _ _, fun j y hj => by omega⟩
  case round =>
    obtain ⟨k, hk, rfl, hb, HH⟩ := hrel
    by_cases hlt : k < ps.length
    · have hx := List.getElem?_eq_getElem hlt
      generalize hgx : ps[k] = x at hx
      clear hgx
      obtain ⟨b, off, rfl, g0, g1⟩ := PairsAt.at (RowsAt.below HV.out hb) hx
      have HX := Lib.hid hx
      have HB := Lib.hid hb
      have HCB := Lib.hid (blocked_any x wr tb mb ms ((Kept.of_below (S := fun _ => False) hb).cell id HC.out) (HM.out.kept (Kept.of_below (S := fun _ => False) hb) id))
      clear hx hb
      go_wp2_with (go_at_call 31; refine HCB.out.mono ?_; rintro e w2 ⟨rfl, hb2⟩)
      · have hc : decide (x ∈ ms) = true := by first | assumption | exact decide_eq_true (by assumption)
        go_ret
        refine ⟨_, rfl, ?_, HB.out.trans (hb2.mono HB.out.size)⟩
        have : (ps.any fun p => decide (p ∈ ms)) = true := List.any_eq_true.2 ⟨x, List.mem_of_getElem? HX.out, hc⟩
        rw [this]; simp
      · have hc : decide (x ∈ ms) = false := by first | assumption | exact decide_eq_false (by assumption)
        go_roundw
        case rel =>
          refine ⟨k + 1, by omega, by go_num, HB.out.trans (hb2.mono HB.out.size), fun j y hj hy => ?_⟩
          by_cases hjk : j = k
          · subst hjk
            rw [HX.out] at hy; cases hy
            simpa using hc
          · exact HH.out j y (by omega) hy
        case measure => simp [intOf]; omega
    · go_wp2
      go_ret
      refine ⟨_, rfl, ?_, hb⟩
      have : (ps.any fun p => decide (p ∈ ms)) = false := by
        rw [List.any_eq_false]
        intro y hy
        obtain ⟨j, hj⟩ := List.mem_iff_getElem?.1 hy
        simpa using HH.out j y (by have := (List.getElem?_eq_some_iff.1 hj).1; omega) hj
      rw [this]; simp
set_option maxHeartbeats 800000 in
theorem hasBlocked_any (v : Value) (ps : List (Nat × B)) (w : World) (tb mb : Nat) (ms : List (Nat × B)) (hv : PairsAt w v ps) (hc : w.cell? ⟨tb, 0, none⟩ = some (.map (some mb))) (hm : PairMap w mb ms) :
    Calls Tryz.prog 30 #[v, .func (.func 31) #[] #[.pointer (some ⟨tb, 0, none⟩)]] w fun e w' => e = .returned (.bool (ps.any fun p => decide (p ∈ ms))) ∧ Below w.heap.size w w' := by
  have HI := Lib.hid (idxBlocked_any v ps w tb mb ms hv hc hm)
  clear hv hc hm
  go_enter Tryz.func30, Tryz.ntmps30
  go_wp2_with (go_at_call 52; refine HI.out.mono ?_; rintro e w2 ⟨r, rfl, hr, hb2⟩)
  go_ret
  first
    | exact ⟨retb hr, hb2⟩
    | exact ⟨rfl, hb2⟩
theorem info_pairs : (Tryz.prog.info? 91).map (fun i => (i.zero, i.size, i.bytes)) = some (some (.slice none 0 0), 1, 24) := by kernel_rfl
structure SvMem (w wr : World) (ns : List PNode) (rules : List PRule) (bs mb tb aa lo f : Nat) (sb : List Bool) (tvs : List Value) (ms : List (Nat × B)) : Prop where
  bools : wr.heap[bs]? = some (.cells (sb.map Value.bool).toArray 4 (0, 0))
  map : PairMap wr mb ms
  box : wr.heap[tb]? = some (.cells #[.map (some mb)] 89 (0, 0))
  alls : wr.heap[aa]? = some (.cells tvs.toArray 91 (0, 0))
  kept : Kept (fun _ => False) w wr
  rows : ∀ (i : Nat) (v : Value) (r : PRule), i < f → tvs[i]? = some v → rules[i]? = some r → wr.ownsRow lo 96 2 v (touches ns r).length ((touches ns r).map pairCells).flatten
  slen : sb.length = rules.length
  tlen : tvs.length = rules.length
  h1 : w.heap.size ≤ bs
  h2 : bs < mb
  h3 : mb < tb
  h4 : tb < aa
  h5 : aa < lo
  h6 : lo ≤ wr.heap.size
section
variable {w wr wx : World} {ns : List PNode} {rules : List PRule} {bs mb tb aa lo f : Nat} {sb : List Bool} {tvs : List Value} {ms : List (Nat × B)}
theorem SvMem.quiet (h : SvMem w wr ns rules bs mb tb aa lo f sb tvs ms) (hk : Kept (fun _ => False) wr wx) : SvMem w wx ns rules bs mb tb aa lo f sb tvs ms :=
  ⟨hk.heap id h.bools, h.map.kept hk id, hk.heap id h.box, hk.heap id h.alls, h.kept.trans hk, fun i v r hi hv hr => owns_kept (h.rows i v r hi hv hr) hk (fun _ _ => id), h.slen, h.tlen, h.h1, h.h2, h.h3, h.h4, h.h5, Nat.le_trans h.h6 hk.size⟩
theorem SvMem.cellB (h : SvMem w wr ns rules bs mb tb aa lo f sb tvs ms) {i : Nat} {x : Bool} (hx : sb[i]? = some x) : wr.cell? ⟨bs, i, none⟩ = some (.bool x) := cellIn h.bools i (by simp [hx])
theorem SvMem.cellT (h : SvMem w wr ns rules bs mb tb aa lo f sb tvs ms) {i : Nat} {x : Value} (hx : tvs[i]? = some x) : wr.cell? ⟨aa, i, none⟩ = some x := cellIn h.alls i (by simp [hx])
theorem SvMem.setB (h : SvMem w wr ns rules bs mb tb aa lo f sb tvs ms) (i : Nat) (x : Bool) : SvMem w (wr.setCell ⟨bs, i, none⟩ (.bool x)) ns rules bs mb tb aa lo f (sb.set i x) tvs ms := by
  have a1 := h.h1; have a2 := h.h2; have a3 := h.h3; have a4 := h.h4; have a5 := h.h5
  have hk : Kept (· = bs) wr (wr.setCell ⟨bs, i, none⟩ (.bool x)) := (Kept.refl (· = bs) wr).setCell (.inl rfl) _
  refine ⟨?_, h.map.kept hk (by omega), hk.heap (by omega) h.box, hk.heap (by omega) h.alls, h.kept.trans' hk (fun k hk' hs => by omega), fun i v r hi hv hr => ?_, by simpa using h.slen, h.tlen, a1, a2, a3, a4, a5, Nat.le_trans h.h6 hk.size⟩
  · have := setIn h.bools i (.bool x)
    rw [this]
    congr 2
    simp [List.map_set]
  · have ho := h.rows i v r hi hv hr
    exact owns_kept ho hk (fun k hk' => by have := (ho.lt k hk').1; omega)
theorem SvMem.setT (h : SvMem w wr ns rules bs mb tb aa lo f sb tvs ms) {x : Value} {r : PRule} (hr : rules[f]? = some r) (ho : wr.ownsRow lo 96 2 x (touches ns r).length ((touches ns r).map pairCells).flatten) :
    SvMem w (wr.setCell ⟨aa, f, none⟩ x) ns rules bs mb tb aa lo (f + 1) sb (tvs.set f x) ms := by
  have a1 := h.h1; have a2 := h.h2; have a3 := h.h3; have a4 := h.h4; have a5 := h.h5
  have hk : Kept (· = aa) wr (wr.setCell ⟨aa, f, none⟩ x) := (Kept.refl (· = aa) wr).setCell (.inl rfl) _
  have hfl : f < tvs.length := by rw [h.tlen]; exact (List.getElem?_eq_some_iff.1 hr).1
  refine ⟨hk.heap (by omega) h.bools, h.map.kept hk (by omega), hk.heap (by omega) h.box, ?_, h.kept.trans' hk (fun k hk' hs => by omega), fun i v q hi hv hq => ?_, h.slen, by simpa using h.tlen, a1, a2, a3, a4, a5, Nat.le_trans h.h6 hk.size⟩
  · have := setIn h.alls f x
    rw [this]
    congr 2
    simp
  · rw [List.getElem?_set] at hv
    split at hv
    · rename_i he
      subst he
      try rw [if_pos hfl] at hv
      cases hv
      rw [hr] at hq; cases hq
      exact owns_kept ho hk (fun k hk' => by have := (ho.lt k hk').1; omega)
    · have ho' := h.rows i v q (by omega) hv hq
      exact owns_kept ho' hk (fun k hk' => by have := (ho'.lt k hk').1; omega)
theorem SvMem.add (h : SvMem w wr ns rules bs mb tb aa lo f sb tvs ms) {ms' : List (Nat × B)} (hm : PairMap wx mb ms') (hk : Kept (· = mb) wr wx) : SvMem w wx ns rules bs mb tb aa lo f sb tvs ms' := by
  have a1 := h.h1; have a2 := h.h2; have a3 := h.h3; have a4 := h.h4; have a5 := h.h5
  refine ⟨hk.heap (by omega) h.bools, hm, hk.heap (by omega) h.box, hk.heap (by omega) h.alls, h.kept.trans' hk (fun k hk' hs => by omega), fun i v r hi hv hr => ?_, h.slen, h.tlen, a1, a2, a3, a4, a5, Nat.le_trans h.h6 hk.size⟩
  have ho := h.rows i v r hi hv hr
  exact owns_kept ho hk (fun k hk' => by have := (ho.lt k hk').1; omega)
end
def SvBeg (rules : List PRule) (i : Nat) (sb : List Bool) : Prop := sb.length = rules.length ∧ ∀ (j : Nat) (r : PRule), rules[j]? = some r → sb[j]? = some (decide (j < i) && decide (r.media ≠ []))
theorem SvBeg.done {rules : List PRule} {sb : List Bool} (h : SvBeg rules rules.length sb) : sb = rules.map fun r => decide (r.media ≠ []) := by
  apply List.ext_getElem?
  intro j
  rw [List.getElem?_map]
  cases hr : rules[j]? with
  | none => rw [List.getElem?_eq_none_iff] at hr; rw [List.getElem?_eq_none (by rw [h.1]; exact hr)]; rfl
  | some r =>
    rw [h.2 j r hr]
    have := (List.getElem?_eq_some_iff.1 hr).1
    simp [this]
theorem SvBeg.start (rules : List PRule) : SvBeg rules 0 (List.replicate rules.length false) := by
  refine ⟨by simp, fun j r hr => ?_⟩
  have := (List.getElem?_eq_some_iff.1 hr).1
  simp [this]
theorem SvBeg.step {rules : List PRule} {i : Nat} {sb : List Bool} {r : PRule} (h : SvBeg rules i sb) (hr : rules[i]? = some r) : SvBeg rules (i + 1) (sb.set i (decide (r.media ≠ []))) := by
  have hil := (List.getElem?_eq_some_iff.1 hr).1
  refine ⟨by simpa using h.1, fun j q hq => ?_⟩
  rw [List.getElem?_set]
  by_cases hij : i = j
  · subst hij
    rw [hr] at hq; cases hq
    rw [if_pos rfl, if_pos (by rw [h.1]; exact hil)]; simp
  · rw [if_neg hij, h.2 j q hq]
    congr 2
    rw [Bool.eq_iff_iff]; simp; omega
end Go.Proofs.YtplbdlgmjehckadGreatDoor

namespace Go.Proofs.YtplbdlgmjehckadGreatDoor
open Go.RowKit
set_option linter.unusedVariables false
set_option linter.unusedSimpArgs false
theorem owns_low {w : World} {b b' e size n : Nat} {v : Value} {xs : List Value} (h : w.ownsRow b e size v n xs) (hb : b' ≤ b) : w.ownsRow b' e size v n xs := by
  refine ⟨h.1, ?_⟩
  rcases h.2 with x | ⟨g, cap, cur, hv, hg, hh, rest⟩
  · exact .inl x
  · exact .inr ⟨g, cap, cur, hv, by omega, hh, rest⟩
def StaysEnds (w : World) (ns : List PNode) (rules : List PRule) (e : Ending) (w' : World) : Prop :=
  ∃ (bs : Nat) (st : List Bool), e = .returned (.slice (some ⟨bs, 0, none⟩) rules.length rules.length) ∧ IsStays ns rules st ∧ w'.heap[bs]? = some (.cells (st.map Value.bool).toArray 4 (0, 0)) ∧ w.heap.size ≤ bs ∧ Kept (fun _ => False) w w'
theorem pairs_new (w : World) (n : Nat) (hn : n ≤ 1073741824) : ∃ w', (Instr.makeSlice 90 (.int .i64 (n : Int)) (.int .i64 (n : Int))).run Tryz.prog w = .ok (.slice (some ⟨w.heap.size, 0, none⟩) n n) w' ∧ w'.heap[w.heap.size]? = some (.cells (List.replicate n (.slice none 0 0)).toArray 91 (0, 0)) ∧ Kept (fun _ => False) w w' := by
  obtain ⟨i, hi, hz0, hz1, hz2⟩ := info_parts info_pairs
  obtain ⟨w', h1, h2, h3⟩ := run_make_full (P := Tryz.prog) w w.heap.size 90 91 i (.slice none 0 0) 1 Tryz.underlying90 hi hz0 hz1 .i64 .i64 n (by rw [hz2]; omega) (by unfold maxLen; omega) (Nat.le_refl _)
  refine ⟨w', h1, ?_, (Kept.refl _ w).grown h3 (fun k hk => by cases hk)⟩
  rcases h2.2 with ⟨hx, _⟩ | ⟨g, cap, cur, hv, hb, hg, hnc, hcm, hcs, htake⟩
  · cases hx
  · cases hv
    have hcl : cur.toList.length = n * 1 := by simpa using hcs
    rw [List.take_of_length_le (by omega)] at htake
    have : cur = (List.replicate n (Value.slice none 0 0)).toArray := by
      apply Array.ext'
      rw [htake]
      have e : (Value.slice none 0 0).cells = #[.slice none 0 0] := rfl
      rw [e]
      apply List.ext_getElem
      · simp [size_madeCells]
      · intro j h5 h6
        simp [madeCells, Nat.mod_one]
    rw [← this]; exact hg
set_option maxRecDepth 100000 in
set_option maxHeartbeats 6400000 in
theorem stays_any (ns : List PNode) (rules : List PRule) (hc : CaCtx ns rules) (m : Int) (w : World) (v rv : Value) (hv : NodesAt w v ns) (hr : RulesAt w rv rules) (hm : w.cell? ⟨0, 0, none⟩ = some (.int .i64 m)) :
    Calls Tryz.prog 11 #[v, rv] w (StaysEnds w ns rules) := by
  obtain ⟨na, ncap, rfl, hnc1, hnc2⟩ := hv.form
  obtain ⟨ra, rcap, rfl, hrc1, hrc2⟩ := NestAt.form hr
  unfold maxLen at hnc2 hrc2
  have hfew := hc.few
  have HC := Lib.hid hc
  have HV := Lib.hid hv
  have HR := Lib.hid hr
  have HM := Lib.hid hm
  clear hc hv hr hm
  obtain ⟨w1, hmk, hb1, k1⟩ := bools_new w rules.length (by omega)
  obtain ⟨bs, HBS⟩ : ∃ y, Hid (w.heap.size = y) := ⟨_, rfl⟩
  obtain ⟨wm, HWM⟩ : ∃ x, Hid (w1.alloc (.map #[] 0) = x) := ⟨_, rfl⟩
  have e0 := run_made (P := Tryz.prog) w1 89
  have hpm : PairMap wm w1.heap.size [] := by rw [← HWM.out]; exact PairMap.made w1
  have km : Kept (fun _ => False) w1 wm := by rw [← HWM.out]; exact (Kept.refl _ w1).alloc _
  have zm : wm.heap.size = w1.heap.size + 1 := by rw [← HWM.out]; simp
  rw [HWM.out] at e0
  obtain ⟨mb, HMB⟩ : ∃ y, Hid (w1.heap.size = y) := ⟨_, rfl⟩
  rw [HMB.out] at e0 hpm
  obtain ⟨tb, HTB⟩ : ∃ y, Hid (wm.heap.size = y) := ⟨_, rfl⟩
  have kt : Kept (fun _ => False) wm (wm.alloc (.cells #[.map (some mb)] 89 (0, 0))) := (Kept.refl _ wm).alloc _
  have ht : (wm.alloc (.cells #[.map (some mb)] 89 (0, 0))).heap[wm.heap.size]? = some (.cells #[.map (some mb)] 89 (0, 0)) := newIn wm _
  have zt : (wm.alloc (.cells #[.map (some mb)] 89 (0, 0))).heap.size = wm.heap.size + 1 := by simp
  obtain ⟨wl, hmk2, hal, kl⟩ := pairs_new (wm.alloc (.cells #[.map (some mb)] 89 (0, 0))) rules.length (by omega)
  rw [zt] at hmk2 hal
  obtain ⟨lo, HLO⟩ : ∃ y, Hid (wl.heap.size = y) := ⟨_, rfl⟩
  have zb := ltIn hb1
  have za := ltIn hal
  have HST : Hid (SvMem w wl ns rules bs mb tb (tb + 1) lo 0 (List.replicate rules.length false) (List.replicate rules.length (.slice none 0 0)) []) := Lib.hid (by
    have hb := HBS.out; have hmb := HMB.out; have htb := HTB.out; have hlo := HLO.out
    rw [hb] at hb1 zb; rw [htb] at ht hal zm za
    exact ⟨kl.heap id (kt.heap id (km.heap id hb1)), (hpm.kept kt id).kept kl id, kl.heap id ht, hal, k1.trans (km.trans (kt.trans kl)), fun i v r hi => by omega, by simp, by simp, by omega, by omega, by omega, by omega, by omega, by omega⟩)
  have HB0 := Lib.hid (SvBeg.start rules)
  rw [HBS.out] at hmk
  rw [HTB.out] at hmk2
  have htb' : wm.heap.size = tb := HTB.out
  clear hb1 k1 hpm km zm kt ht zt hal kl zb za
  go_enter Tryz.func11, Tryz.ntmps11
  go_wp2_with fail
  go_loopw [22] (fun c wr => ∃ (i : Nat) (sb : List Bool) (tvs : List Value), i ≤ rules.length ∧ c = .int .i64 (i : Int) ∧ Hid (SvMem w wr ns rules bs mb tb (tb + 1) lo i sb tvs []) ∧ Hid (SvBeg rules i sb)) (fun c _ => rules.length - (intOf c).toNat)
  case atStart => exact ⟨0, _, _, by omega, rfl, HST, HB0⟩
  case round =>
    obtain ⟨i, sb, tvs, hi, rfl, HS, HB⟩ := hrel
    obtain ⟨wr0, hwr0⟩ : ∃ x, x = wr := ⟨_, rfl⟩
    subst hwr0
    by_cases hlt : i < rules.length
    · have hx := List.getElem?_eq_getElem hlt
      generalize hgx : rules[i] = r at hx
      clear hgx
      obtain ⟨rb, ro, u, rfl, hcs, hru⟩ := NestAt.at HR.out hx
      have HK := Lib.hid HS.out.kept
      have hrm := List.mem_of_getElem? hx
      have HCT : Hid (Calls Tryz.prog 29 #[.slice na ns.length ncap, .pointer (some ⟨rb, ro + i * 5, none⟩)] wr0 fun e w' => ∃ pv base, e = .returned pv ∧ Kept (fun _ => False) wr0 w' ∧ wr0.heap.size ≤ base ∧ w'.ownsRow base 96 2 pv (touches ns r).length ((touches ns r).map pairCells).flatten) :=
        Lib.hid (touches_any ns HC.out.nodes r (HC.out.tests r hrm) (HC.out.vals r hrm) (HC.out.each r hrm) m wr0 _ u rb (ro + i * 5) (nodes_firm.kept HV.out HK.out) (fun j c hj => HK.out.cell id (hcs j c hj)) (rule_firm.kept hru HK.out) (HK.out.cell id HM.out))
      have HC0 : Hid (w.cell? ⟨rb, ro + i * 5, none⟩ = some (.string (str r.media))) := Lib.hid (hcs 0 _ rfl)
      have HX := Lib.hid hx
      obtain ⟨x0, hx0⟩ : ∃ x, sb[i]? = some x := ⟨_, List.getElem?_eq_getElem (by rw [HS.out.slen]; exact hlt)⟩
      obtain ⟨t0, ht0⟩ : ∃ x, tvs[i]? = some x := ⟨_, List.getElem?_eq_getElem (by rw [HS.out.tlen]; exact hlt)⟩
      have HX0 := Lib.hid hx0
      have HT0 := Lib.hid ht0
      clear hcs hru hx hrm hx0 ht0
      go_wp2_with fail
      refine HCT.out.mono ?_
      rintro e w2 ⟨pv, base, rfl, hk2, hb2, how⟩
      obtain ⟨vo, vc, rfl⟩ := owns_form how
      have HS2 := Lib.hid (HS.out.quiet hk2)
      have HS3 := Lib.hid (HS2.out.setT HX.out (owns_low how (by have := HS.out.h6; omega)))
      have c1 : w2.cell? ⟨tb + 1, i, none⟩ = some t0 := HS2.out.cellT HT0.out
      have f1 : w2.frozen? ⟨tb + 1, i, none⟩ = false := freeIn HS2.out.alls i
      have c2 : (w2.setCell ⟨tb + 1, i, none⟩ (.slice vo (touches ns r).length vc)).cell? ⟨rb, ro + i * 5, none⟩ = some (.string (str r.media)) := HS3.out.kept.cell id HC0.out
      have c3 : (w2.setCell ⟨tb + 1, i, none⟩ (.slice vo (touches ns r).length vc)).cell? ⟨bs, i, none⟩ = some (.bool x0) := HS3.out.cellB HX0.out
      have f3 : (w2.setCell ⟨tb + 1, i, none⟩ (.slice vo (touches ns r).length vc)).frozen? ⟨bs, i, none⟩ = false := freeIn HS3.out.bools i
      have hme : (!List.isEmpty r.media) = decide (r.media ≠ []) := by cases r.media <;> simp
      have HS4 := Lib.hid (HS3.out.setB i (!List.isEmpty r.media))
      have HB4 : Hid (SvBeg rules (i + 1) (sb.set i (!List.isEmpty r.media))) := Lib.hid (by rw [hme]; exact HB.out.step HX.out)
      clear hk2 hb2 how hme
      go_wp2_with fail
      go_roundw
      case measure => simp [intOf]; omega
      case rel => exact ⟨i + 1, _, _, by omega, by go_num, HS4, HB4⟩
    · obtain rfl : i = rules.length := by omega
      have hsb := HB.out.done
      subst hsb
      have HI := Lib.hid (SvInv.start ns rules)
      obtain ⟨all, HALL⟩ : ∃ x, Hid (rules.flatMap (touches ns) = x) := ⟨_, rfl⟩
      go_wp2_with fail
      go_loopg [9] (svLeft all [] + 1) (fun k mv wx => ∃ (b : Bool) (sb : List Bool) (ms : List (Nat × B)), mv = .bool b ∧ k = (if b then svLeft all ms + 1 else 0) ∧ Hid (SvMem w wx ns rules bs mb tb (tb + 1) lo rules.length sb tvs ms) ∧ Hid (SvInv ns rules sb ms) ∧ Hid (b = false → IsStays ns rules sb))
      case atStart => exact ⟨true, _, _, rfl, rfl, HS, HI, Lib.hid (fun h => by cases h)⟩
      case round =>
        obtain ⟨b, sb, ms, rfl, hgk, HS1, HI1, HD⟩ := hrel
        obtain ⟨wr1, hwr1⟩ : ∃ x, x = wr := ⟨_, rfl⟩
        subst hwr1
        cases b with
        | false =>
          have HD' := Lib.hid (HD.out rfl)
          go_wp2_with fail
          go_ret
          exact ⟨bs, sb, rfl, HD'.out, HS1.out.bools, HS1.out.h1, HS1.out.kept⟩
        | true =>
          have hgk : gk = svLeft all ms + 1 := hgk
          have HAT := Lib.hid (SvAt.start HI1.out)
          go_wp2_with fail
          go_loopw [9, 46] (fun mv c wx => ∃ (i : Nat) (sb' : List Bool) (mm : SvM), i ≤ rules.length ∧ c = .int .i64 (i : Int) ∧ mv = .bool mm.more ∧ Hid (SvMem w wx ns rules bs mb tb (tb + 1) lo rules.length sb' tvs mm.ms) ∧ Hid (SvAt ns rules ms i ⟨sb', mm⟩)) (fun _ c _ => rules.length - (intOf c).toNat)
          case atStart => exact ⟨0, sb, ⟨ms, false⟩, by omega, rfl, rfl, HS1, HAT⟩
          case round =>
            obtain ⟨i, sb', mm, hi', rfl, rfl, HS2, HA⟩ := hrel
            obtain ⟨wr2, hwr2⟩ : ∃ x, x = wr := ⟨_, rfl⟩
            subst hwr2
            by_cases hlt' : i < rules.length
            · have hx := List.getElem?_eq_getElem hlt'
              generalize hgx : rules[i] = r at hx
              clear hgx
              obtain ⟨x0, hx0⟩ : ∃ x, sb'[i]? = some x := ⟨_, List.getElem?_eq_getElem (by rw [HS2.out.slen]; exact hlt')⟩
              obtain ⟨t0, ht0⟩ : ∃ x, tvs[i]? = some x := ⟨_, List.getElem?_eq_getElem (by rw [HS2.out.tlen]; exact hlt')⟩
              have how := HS2.out.rows i t0 r hlt' ht0 hx
              obtain ⟨vo, vc, rfl⟩ := owns_form how
              have HPA := Lib.hid (pairs_of_owns how)
              have hblt : bs < wr2.heap.size := ltIn HS2.out.bools
              obtain ⟨ps, HPS⟩ : ∃ x, Hid (touches ns r = x) := ⟨_, rfl⟩
              rw [HPS.out] at HPA ht0
              obtain ⟨_, _, he, hp1, hp2⟩ := HPA.out.form
              cases he
              unfold maxLen at hp2
              have HT0 := Lib.hid ht0
              have HX0 := Lib.hid hx0
              have HSTP := HA.out.step hx
              rw [HPS.out] at HSTP
              replace HSTP := Lib.hid HSTP
              obtain ⟨q, HQ⟩ : ∃ q : Bool, Hid (((sb'[i]? == some true) || ps.any (fun p => decide (p ∈ mm.ms))) = q) := ⟨_, rfl⟩
              have b0 : wr2.cell? ⟨bs, i, none⟩ = some (.bool x0) := HS2.out.cellB hx0
              have f0 : wr2.frozen? ⟨bs, i, none⟩ = false := freeIn HS2.out.bools i
              have a0 : wr2.cell? ⟨tb + 1, i, none⟩ = some (.slice vo ps.length vc) := HS2.out.cellT ht0
              have HSB : Hid (SvMem w wr2 ns rules bs mb tb (tb + 1) lo rules.length sb' tvs mm.ms) := HS2
              have HXR := Lib.hid hx
              clear how hx ht0
              go_upto_region 16 with fail
              go_cut [] (fun wx => Hid (SvMem w wx ns rules bs mb tb (tb + 1) lo rules.length (sb'.set i q) tvs mm.ms))
              case first =>
                cases x0 with
                | true =>
                  have hq : q = true := by rw [← HQ.out, hx0]; simp
                  subst hq
                  have HF := Lib.hid (HS2.out.setB i true)
                  clear hx0
                  go_wp2_with fail
                  go_meet
                  case rel => exact HF
                | false =>
                  have hq : ps.any (fun p => decide (p ∈ mm.ms)) = q := by rw [← HQ.out, hx0]; simp
                  have HCH := hasBlocked_any _ ps wr2 tb mb mm.ms HPA.out (cellIn HS2.out.box 0 rfl) HS2.out.map
                  rw [hq] at HCH
                  replace HCH := Lib.hid HCH
                  clear hx0 hq
                  go_wp2_with fail
                  refine HCH.out.mono ?_
                  rintro e w5 ⟨rfl, hb5⟩
                  have HS5 := Lib.hid (HS2.out.quiet (Kept.of_below hb5))
                  have HS6 := Lib.hid (HS5.out.setB i q)
                  have d0 : w5.cell? ⟨bs, i, none⟩ = some (.bool false) := HS5.out.cellB HX0.out
                  have g0 : w5.frozen? ⟨bs, i, none⟩ = false := freeIn HS5.out.bools i
                  clear hb5
                  go_wp2_with fail
                  go_meet
                  case rel => exact HS6
              case rest =>
                have HS3 : Hid (SvMem w wc ns rules bs mb tb (tb + 1) lo rules.length (sb'.set i q) tvs mm.ms) := hcut
                have hil : i < sb'.length := by rw [HS2.out.slen]; exact hlt'
                have d0 : wc.cell? ⟨bs, i, none⟩ = some (.bool q) := HS3.out.cellB (by rw [List.getElem?_set, if_pos rfl, if_pos hil])
                have d1 : wc.cell? ⟨tb + 1, i, none⟩ = some (.slice vo ps.length vc) := HS3.out.cellT HT0.out
                clear b0 f0 a0 hx0
                cases q with
                | false =>
                  have HN : Hid (SvAt ns rules ms (i + 1) ⟨sb'.set i false, mm⟩) := Lib.hid (by
                    have := HSTP.out
                    unfold svStep at this
                    rw [if_neg (by rw [HQ.out]; simp)] at this
                    exact this)
                  go_wp2_with fail
                  go_roundw
                  case measure => simp [intOf]; omega
                  case rel => exact ⟨i + 1, _, mm, by omega, by go_num, rfl, HS3, HN⟩
                | true =>
                  have HN : Hid (SvAt ns rules ms (i + 1) ⟨sb'.set i true, svAddAll mm ps⟩) := Lib.hid (by
                    have := HSTP.out
                    unfold svStep at this
                    rw [if_pos HQ.out] at this
                    exact this)
                  go_wp2_with fail
                  go_loopw [9, 74] (fun mv c wx => ∃ j : Nat, j ≤ ps.length ∧ c = .int .i64 (j : Int) ∧ mv = .bool (svAddAll mm (ps.take j)).more ∧ Hid (SvMem w wx ns rules bs mb tb (tb + 1) lo rules.length (sb'.set i true) tvs (svAddAll mm (ps.take j)).ms)) (fun _ c _ => ps.length - (intOf c).toNat)
                  case atStart => exact ⟨0, by omega, rfl, rfl, HS3⟩
                  case round =>
                    obtain ⟨j, hj, rfl, rfl, HS4⟩ := hrel
                    obtain ⟨wr3, hwr3⟩ : ∃ x, x = wr := ⟨_, rfl⟩
                    subst hwr3
                    by_cases hjlt : j < ps.length
                    · have hy := List.getElem?_eq_getElem hjlt
                      generalize hgy : ps[j] = y at hy
                      clear hgy
                      have hown := HS4.out.rows i _ r hlt' HT0.out HXR.out
                      rw [HPS.out] at hown
                      obtain ⟨pb, po, rfl, g0, g1⟩ := PairsAt.at (pairs_of_owns hown) hy
                      have HNX : Hid (svAddAll mm (ps.take (j + 1)) = svAdd (svAddAll mm (ps.take j)) y) := Lib.hid (by
                        rw [List.take_add_one, hy, Option.toList_some]
                        unfold svAddAll
                        rw [List.foldl_append]; rfl)
                      generalize svAddAll mm (ps.take j) = mj at *
                      clear hown hy
                      go_upto_region 21 with fail
                      obtain ⟨wd, HWD⟩ : ∃ x, Hid (wr3.alloc (.cells #[.int .i64 (y.1 : Int), .string (str y.2)] 96 (0, 0)) = x) := ⟨_, rfl⟩
                      have k0 : wd.cell? ⟨wr3.heap.size, 0, none⟩ = some (.int .i64 (y.1 : Int)) := by rw [← HWD.out]; exact cellIn (newIn wr3 _) 0 rfl
                      have k1 : wd.cell? ⟨wr3.heap.size, 1, none⟩ = some (.string (str y.2)) := by rw [← HWD.out]; exact cellIn (newIn wr3 _) 1 rfl
                      have HS5 : Hid (SvMem w wd ns rules bs mb tb (tb + 1) lo rules.length (sb'.set i true) tvs mj.ms) := Lib.hid (HS4.out.quiet (by rw [← HWD.out]; exact (Kept.refl _ wr3).alloc _))
                      have k2 : wd.cell? ⟨tb, 0, none⟩ = some (.map (some mb)) := cellIn HS5.out.box 0 rfl
                      have hl := HS5.out.map.look y
                      unfold pairV at hl
                      rw [HWD.out]
                      clear g0 g1
                      by_cases hym : y ∈ mj.ms
                      · have HN2 : Hid (svAddAll mm (ps.take (j + 1)) = mj) := Lib.hid (by rw [HNX.out]; unfold svAdd; rw [if_pos hym])
                        rw [decide_eq_true hym] at hl
                        clear hym
                        go_wp2_with fail
                        go_roundw
                        case measure => simp [intOf]; omega
                        case rel => exact ⟨j + 1, by omega, by go_num, by rw [HN2.out], Lib.hid (by rw [HN2.out]; exact HS5.out)⟩
                      · have HN2 : Hid (svAddAll mm (ps.take (j + 1)) = ⟨mj.ms ++ [y], true⟩) := Lib.hid (by rw [HNX.out]; unfold svAdd; rw [if_neg hym])
                        rw [decide_eq_false hym] at hl
                        obtain ⟨w7, hadd, hm7, hk7, hz7⟩ := HS5.out.map.add y hym
                        unfold pairV at hadd
                        have HS7 := Lib.hid (HS5.out.add hm7 hk7)
                        clear hym hm7 hk7 hz7
                        go_wp2_with fail
                        go_roundw
                        case measure => simp [intOf]; omega
                        case rel => exact ⟨j + 1, by omega, by go_num, by rw [HN2.out], Lib.hid (by rw [HN2.out]; exact HS7.out)⟩
                    · obtain rfl : j = ps.length := by omega
                      have HS5 : Hid (SvMem w wr3 ns rules bs mb tb (tb + 1) lo rules.length (sb'.set i true) tvs (svAddAll mm ps).ms) := Lib.hid (by have := HS4.out; rw [List.take_length] at this; exact this)
                      have htk : (svAddAll mm (ps.take ps.length)).more = (svAddAll mm ps).more := by rw [List.take_length]
                      go_wp2_with fail
                      go_roundw
                      case measure => simp [intOf]; omega
                      case rel => exact ⟨i + 1, _, svAddAll mm ps, by omega, by go_num, by rw [htk], HS5, HN⟩
            · obtain rfl : i = rules.length := by omega
              have hleft : mm.more = true → svLeft all mm.ms < svLeft all ms := fun h => by rw [← HALL.out]; exact HA.out.left h
              have HLEFT := Lib.hid hleft
              have HINV := Lib.hid HA.out.inv
              have HDN : Hid (mm.more = false → IsStays ns rules sb') := Lib.hid (fun h => HA.out.done h)
              clear hleft
              go_wp2_with fail
              go_roundg (if mm.more then svLeft all mm.ms + 1 else 0)
              case measure =>
                have := HLEFT.out
                cases hmm : mm.more with
                | true => have := this hmm; simp; omega
                | false => simp
              case rel => exact ⟨mm.more, sb', mm.ms, rfl, rfl, HS2, HINV, HDN⟩
end Go.Proofs.YtplbdlgmjehckadGreatDoor

