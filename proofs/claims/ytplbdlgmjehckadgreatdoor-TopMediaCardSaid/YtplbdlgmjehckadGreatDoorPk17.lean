/-
  Lemmas for the claims of this seat: the program's functions walked, and plain laws. In this order: CaClaims Open MtOpen.
-/
import Derived.Test.YtplbdlgmjehckadGreatDoorPk15
import Derived.Test.YtplbdlgmjehckadGreatDoorPk16
import Derived.Test.YtplbdlgmjehckadGreatDoorPk13
import Derived.Deep.Strs
import Derived.ProofKit
namespace Go.Proofs.YtplbdlgmjehckadGreatDoor
open Go.RowKit
set_option linter.unusedVariables false
set_option linter.unusedSimpArgs false
def nDecls (rs : List PRule) : Nat := (rs.map fun r => r.decls.length).sum
structure CaCtx (ns : List PNode) (rs : List PRule) : Prop where
  nodes : MtCtx ns
  tests : ∀ r ∈ rs, FewTests r.sels
  vals : ∀ r ∈ rs, ∀ d ∈ r.decls, d.val.length ≤ 1048576
  each : ∀ r ∈ rs, r.decls.length ≤ 1048576
  decls : nDecls rs ≤ 274877906944
  few : rs.length ≤ 2097152
theorem nDecls_take (rs : List PRule) (i : Nat) {r : PRule} (h : rs[i]? = some r) : nDecls (rs.take (i + 1)) = nDecls (rs.take i) + r.decls.length := by
  unfold nDecls
  rw [List.take_add_one, h, Option.toList_some, List.map_append, List.sum_append]
  simp
theorem nDecls_le (rs : List PRule) (i : Nat) : nDecls (rs.take i) ≤ nDecls rs := by
  unfold nDecls
  conv => rhs; rw [← List.take_append_drop i rs, List.map_append, List.sum_append]
  omega
theorem nDecls_mem {rs : List PRule} {i : Nat} {r : PRule} (h : rs[i]? = some r) : nDecls (rs.take i) + r.decls.length ≤ nDecls rs := by
  rw [← nDecls_take rs i h]; exact nDecls_le _ _
theorem pAll_len : ∀ {ds xs : List PDecl}, pAll ds = some xs → xs.length ≤ 4 * ds.length
  | [], xs, h => by cases h; simp
  | d :: ds, xs, h => by
    obtain ⟨a, b, h1, h2, rfl⟩ := all_cons h
    have := (expand_len h1).2
    have := pAll_len h2
    simp; omega
theorem best_low {ns : List PNode} {k : Int} {sels : List PSel} (h : FewTests sels) : (mBest ns k sels).1.low 1048576 := by
  have hh : ∀ (ss : List PSel) (acc : PWt × Bool), (∀ s ∈ ss, nTests s ≤ 1048576) → acc.1.low 1048576 → (ss.foldl (bestStep ns k) acc).1.low 1048576 := by
    intro ss
    induction ss with
    | nil => intro acc _ ha; exact ha
    | cons s ss ih =>
      intro acc hs ha
      refine ih _ (fun x hx => hs x (by simp [hx])) ?_
      unfold bestStep
      split
      · exact low_mono (weigh_low s) (hs s (by simp))
      · exact ha
  exact hh sels _ h.2 ⟨Nat.zero_le _, Nat.zero_le _, Nat.zero_le _⟩
def contR (ns : List PNode) (k : Int) (n : PNode) (rs : List PRule) (media : List B) (cs : List PClaim) (i : Nat) : Ans (List PClaim) :=
  (ruleClaims ns k media (rs.drop i)).then fun a => (ownDecls n).then fun b => .ok (cs ++ (a ++ ownClaims b))
theorem contR_start (ns : List PNode) (k : Int) (n : PNode) (rs : List PRule) (media : List B) : contR ns k n rs media [] 0 = cClaims ns k n rs media := by
  unfold contR cClaims; simp
theorem contR_skip {ns : List PNode} {k : Int} {n : PNode} {rs : List PRule} {media : List B} {cs : List PClaim} {i : Nat} {r : PRule} (hr : rs[i]? = some r) (h : ((mBest ns k r.sels).2 && counts r media) = false) : contR ns k n rs media cs i = contR ns k n rs media cs (i + 1) := by
  unfold contR
  rw [List.drop_eq_getElem_cons (List.getElem?_eq_some_iff.1 hr).1, show rs[i]'(List.getElem?_eq_some_iff.1 hr).1 = r from (List.getElem?_eq_some_iff.1 hr).2, ruleClaims, h]
  rfl
theorem contR_bad {ns : List PNode} {k : Int} {n : PNode} {rs : List PRule} {media : List B} {cs : List PClaim} {i : Nat} {r : PRule} (hr : rs[i]? = some r) (h : ((mBest ns k r.sels).2 && counts r media) = true) (hp : pAll r.decls = none) : contR ns k n rs media cs i = .bad ⟨5, 0⟩ := by
  unfold contR
  rw [List.drop_eq_getElem_cons (List.getElem?_eq_some_iff.1 hr).1, show rs[i]'(List.getElem?_eq_some_iff.1 hr).1 = r from (List.getElem?_eq_some_iff.1 hr).2, ruleClaims, h, if_pos rfl, hp]
  rfl
theorem contR_more {ns : List PNode} {k : Int} {n : PNode} {rs : List PRule} {media : List B} {cs : List PClaim} {i : Nat} {r : PRule} {d : List PDecl} (hr : rs[i]? = some r) (h : ((mBest ns k r.sels).2 && counts r media) = true) (hp : pAll r.decls = some d) :
    contR ns k n rs media cs i = contR ns k n rs media (cs ++ d.map fun x => ⟨x, false, (mBest ns k r.sels).1⟩) (i + 1) := by
  unfold contR
  rw [List.drop_eq_getElem_cons (List.getElem?_eq_some_iff.1 hr).1, show rs[i]'(List.getElem?_eq_some_iff.1 hr).1 = r from (List.getElem?_eq_some_iff.1 hr).2, ruleClaims, h, if_pos rfl, hp]
  cases ruleClaims ns k media (rs.drop (i + 1)) with
  | bad f => rfl
  | ok a =>
    simp only [Ans.ok_then]
    cases ownDecls n with
    | bad f => rfl
    | ok b => simp
theorem contR_end {ns : List PNode} {k : Int} {n : PNode} {rs : List PRule} {media : List B} {cs : List PClaim} : contR ns k n rs media cs rs.length = (ownDecls n).then fun b => .ok (cs ++ ownClaims b) := by
  unfold contR
  rw [List.drop_length]
  rfl
theorem info_claim : (Tryz.prog.info? 128).map (fun i => (i.zero, i.size, i.bytes)) = some (some (.agg #[.string ⟨#[]⟩, .string ⟨#[]⟩, .bool false, .bool false, .int .i64 0, .int .i64 0, .int .i64 0]), 7, 72) := by kernel_rfl
def ClEnds (w : World) (r : Ans (List PClaim)) (e : Ending) (w' : World) : Prop :=
  match r with
  | .bad f => e = .returned (.tuple #[.slice none 0 0, .int .i64 (f.err : Int)]) ∧ Kept (fun _ => False) w w'
  | .ok cs => ∃ v, e = .returned (.tuple #[v, .int .i64 0]) ∧ Kept (fun _ => False) w w' ∧ w'.ownsRow w.heap.size 128 7 v cs.length (cs.map claimCells).flatten ∧ (∀ c ∈ cs, c.w.low 1048576) ∧ cs.length ≤ 1099600000000
structure CLp (w wr : World) (v : Value) (ns : List PNode) (k : Int) (n : PNode) (rs : List PRule) (media : List B) (r : Ans (List PClaim)) (i : Nat) (cs : List PClaim) : Prop where
  own : wr.ownsRow w.heap.size 128 7 v cs.length (cs.map claimCells).flatten
  kept : Kept (fun _ => False) w wr
  rest : contR ns k n rs media cs i = r
  low : ∀ c ∈ cs, c.w.low 1048576
  few : cs.length ≤ 4 * nDecls (rs.take i)
theorem claim_one (c : PClaim) : ∀ u ∈ claimCells c, u.oneCell' = true := by
  intro u hu
  simp only [claimCells, List.mem_cons, List.not_mem_nil, or_false] at hu
  rcases hu with rfl | rfl | rfl | rfl | rfl | rfl | rfl <;> rfl
theorem owns_form {w : World} {base e size n : Nat} {v : Value} {xs : List Value} (h : w.ownsRow base e size v n xs) : ∃ vo vc, v = .slice vo n vc := by
  rcases h.2 with ⟨h, hn⟩ | ⟨g, cap, cur, h, _⟩
  · exact ⟨none, 0, by rw [h, hn]⟩
  · exact ⟨_, cap, h⟩
theorem claims_push (cs : List PClaim) (c : PClaim) : (cs.map claimCells).flatten ++ claimCells c = ((cs ++ [c]).map claimCells).flatten := by simp
structure ILp (w : World) (B : Nat) (w4 wx : World) (v : Value) (cs : List PClaim) : Prop where
  own : wx.ownsRow w.heap.size 128 7 v cs.length (cs.map claimCells).flatten
  kept : Kept (fun q => w.heap.size ≤ q ∧ q < B) w4 wx
  side : ∀ q, v.ownBlock = some q → q < B ∨ w4.heap.size ≤ q
theorem ILp.alloc {w : World} {B : Nat} {w4 wx : World} {v : Value} {cs : List PClaim} (h : ILp w B w4 wx v cs) (o : Obj) : ILp w B w4 (wx.alloc o) v cs := ⟨h.own.alloc o, h.kept.alloc o, h.side⟩
theorem ILp.push {w : World} {B : Nat} {w4 wd w15 : World} {v v' : Value} {cs cs' : List PClaim} {o : Obj} {gg : Nat} (h : ILp w B w4 wd v cs) (h4 : w.heap.size ≤ w4.heap.size) (hB : w.heap.size ≤ B) (hg : (wd.alloc o).grownBy w15 v.ownBlock) (hat : v.ownBlock = some gg ∨ gg = wd.heap.size + 1)
    (ho : w15.ownsRow w.heap.size 128 7 v' cs'.length (cs'.map claimCells).flatten) (hv : v'.ownBlock = some gg) : ILp w B w4 w15 v' cs' := by
  refine ⟨ho, (h.kept.alloc o).grown hg (fun q hq => ?_), fun q hq => ?_⟩
  · have h1 := (h.own.lt q hq).1
    rcases h.side q hq with h2 | h2
    · exact .inl ⟨h1, h2⟩
    · exact .inr h2
  · rw [hv] at hq
    cases hq
    rcases hat with h1 | h1
    · exact h.side _ h1
    · right; have := h.kept.size; omega
set_option maxRecDepth 100000 in
set_option maxHeartbeats 6400000 in
theorem claims_any (ns : List PNode) (rs : List PRule) (hc : CaCtx ns rs) (media : List B) (k : Nat) (n : PNode) (hn : ns[k]? = some n) (m : Int) (w : World) (v rv mv : Value) (hv : NodesAt w v ns) (hr : RulesAt w rv rs) (hmv : StrsAt w mv media) (hm : w.cell? ⟨0, 0, none⟩ = some (.int .i64 m)) :
    Calls Tryz.prog 46 #[v, .int .i64 (k : Int), rv, mv] w (ClEnds w (cClaims ns (k : Int) n rs media)) := by
  obtain ⟨na, ncap, rfl, hnc1, hnc2⟩ := hv.form
  obtain ⟨ra, rcap, rfl, hrc1, hrc2⟩ := NestAt.form hr
  obtain ⟨ma, mcap, rfl, hmc1, hmc2⟩ := StrsAt.form hmv
  unfold maxLen at hnc2 hrc2 hmc2
  obtain ⟨R, HR⟩ : ∃ R, Hid (cClaims ns (k : Int) n rs media = R) := ⟨_, rfl⟩
  rw [HR.out]
  have h0 : 0 < w.heap.size := World.block_lt_of_cell? w _ hm
  have hkl : k < ns.length := (List.getElem?_eq_some_iff.1 hn).1
  have hfn := hc.nodes.few
  have hfr := hc.few
  have HC := Lib.hid hc
  have HN := Lib.hid hn
  have HV := Lib.hid hv
  have HRS := Lib.hid hr
  have HMV := Lib.hid hmv
  have HM := Lib.hid hm
  obtain ⟨i0, hi0, hz0, hz1, hz2⟩ := info_parts info_claim
  obtain ⟨j0, hj0, hy0, hy1, hy2⟩ := info_parts info_decl
  obtain ⟨g0, hg0, hx0, hx1, hx2⟩ := info_parts info_weight
  clear hc hn hv hr hmv hm
  have hL0 : Hid (CLp w w (.slice none 0 0) ns (k : Int) n rs media R 0 []) := Lib.hid ⟨World.ownsRow_nil _ _ _ _, Kept.refl _ _, by rw [contR_start]; exact HR.out, by simp, by simp⟩
  go_enter Tryz.func46, Tryz.ntmps46
  go_upto_block 0 with fail
  go_cut [10] (fun v wx => ∃ cs, Hid (CLp w wx v ns (k : Int) n rs media R rs.length cs))
  case first =>
    go_wp2_with fail
    go_loopw [10, 27] (fun v c wr => ∃ (i : Nat) (cs : List PClaim), i ≤ rs.length ∧ c = .int .i64 (i : Int) ∧ Hid (CLp w wr v ns (k : Int) n rs media R i cs)) (fun _ c _ => rs.length - (intOf c).toNat)
    case atStart => exact ⟨0, [], by omega, rfl, hL0⟩
    case round =>
      obtain ⟨i, cs, hi, rfl, HL⟩ := hrel
      obtain ⟨wr0, hwr0⟩ : ∃ x, x = wr := ⟨_, rfl⟩
      subst hwr0
      obtain ⟨vo, vc, hvf⟩ := owns_form HL.out.own
      subst hvf
      by_cases hlt : i < rs.length
      · have hx := List.getElem?_eq_getElem hlt
        generalize hgx : rs[i] = r at hx
        clear hgx
        obtain ⟨b, o, u, rfl, hcs, hru⟩ := NestAt.at (rules_firm.kept HRS.out HL.out.kept) hx
        obtain ⟨sv, dv, rfl, hss, hds⟩ := hru
        have c0 : wr0.cell? ⟨b, o + i * 5, none⟩ = some (.string (str r.media)) := hcs 0 _ rfl
        have c1 : wr0.cell? ⟨b, o + i * 5 + 1, none⟩ = some sv := hcs 1 _ rfl
        have c2 : wr0.cell? ⟨b, o + i * 5 + 2, none⟩ = some dv := hcs 2 _ rfl
        have c3 : wr0.cell? ⟨b, o + i * 5 + 3, none⟩ = some (.int .i64 r.lo) := hcs 3 _ rfl
        have c4 : wr0.cell? ⟨b, o + i * 5 + 4, none⟩ = some (.int .i64 r.hi) := hcs 4 _ rfl
        have hmem := List.mem_of_getElem? hx
        have hft := HC.out.tests r hmem
        have HLW : Hid ((mBest ns (k : Int) r.sels).1.low 1048576) := Lib.hid (best_low hft)
        have HVL := Lib.hid (HC.out.vals r hmem)
        have hnm := nDecls_mem hx
        have hnl := HC.out.decls
        have HNT := Lib.hid (nDecls_take rs i hx)
        have hfew := HL.out.few
        have hcb : cs.length ≤ 1099511627776 := by omega
        have HCF := Lib.hid hfew
        have hdl : r.decls.length ≤ 1048576 := HC.out.each r hmem
        have HX := Lib.hid hx
        obtain ⟨⟨⟨xa, xb, xc⟩, ok⟩, HBS⟩ : ∃ x, Hid (mBest ns (k : Int) r.sels = x) := ⟨_, rfl⟩
        rw [HBS.out] at HLW
        have HCB : Hid (Calls Tryz.prog 51 #[.slice na ns.length ncap, .int .i64 (k : Int), .agg #[.string (str r.media), sv, dv, .int .i64 r.lo, .int .i64 r.hi]] wr0 fun e w' => e = .returned (.tuple #[.agg #[.int .i64 (xa : Int), .int .i64 (xb : Int), .int .i64 (xc : Int)], .bool ok]) ∧ Kept (fun _ => False) wr0 w') := Lib.hid (by
          have := best_any ns HC.out.nodes r (.tuple #[sv, dv]) m wr0 _ (k : Int) (nodes_firm.kept HV.out HL.out.kept) ⟨_, _, rfl, hss, hds⟩ hft (by omega) (HL.out.kept.cell id HM.out)
          rw [HBS.out] at this
          exact this)
        have HDS := Lib.hid hds
        clear hcs hss hds hx hmem hft hfew hnm
        go_wp2_with fail
        refine HCB.out.mono ?_
        rintro e w2 ⟨rfl, hk2⟩
        go_upto_region 6 with fail
        obtain ⟨wa, HWA⟩ : ∃ x, Hid (w2.alloc (.cells #[.int .i64 (xa : Int), .int .i64 (xb : Int), .int .i64 (xc : Int)] 126 (0, 0)) = x) := ⟨_, rfl⟩
        have hya : WtAt wa w2.heap.size ⟨xa, xb, xc⟩ := by rw [← HWA.out]; exact newIn w2 _
        have hka : Kept (fun _ => False) wr0 wa := by rw [← HWA.out]; exact hk2.alloc _
        have HYA := Lib.hid hya
        have HKA := Lib.hid hka
        rw [HWA.out]
        have a0 := hka.cell id c0
        have a2 := hka.cell id c2
        have hkwz := hk2.size
        clear c0 c1 c2 c3 c4 hk2 hka hya
        cases ok with
        | false =>
          have hsk : Hid (contR ns (k : Int) n rs media cs (i + 1) = R) := Lib.hid (by rw [← contR_skip HX.out (by rw [HBS.out]; rfl)]; exact HL.out.rest)
          go_wp2_with fail
          go_roundw
          case measure => simp [intOf]; omega
          case rel => exact ⟨i + 1, cs, by omega, by go_num, Lib.hid ⟨owns_kept HL.out.own HKA.out (fun _ _ => id), HL.out.kept.trans HKA.out, hsk.out, HL.out.low, by have := HCF.out; have := HNT.out; omega⟩⟩
        | true =>
          obtain ⟨cb, HCN⟩ : ∃ x, Hid (counts r media = x) := ⟨_, rfl⟩
          have HCC := counts_any wa b (o + i * 5) r _ media a0 (RowsAt.below HMV.out (HL.out.kept.trans HKA.out).below)
          rw [HCN.out] at HCC
          replace HCC := Lib.hid HCC
          cases cb with
          | false =>
            have hsk : Hid (contR ns (k : Int) n rs media cs (i + 1) = R) := Lib.hid (by rw [← contR_skip HX.out (by rw [HBS.out, HCN.out]; rfl)]; exact HL.out.rest)
            go_wp2_with (go_at_call 77; refine HCC.out.mono ?_; rintro e w3 ⟨rfl, hk3⟩)
            go_roundw
            case measure => simp [intOf]; omega
            case rel => exact ⟨i + 1, cs, by omega, by go_num, Lib.hid ⟨owns_kept HL.out.own (HKA.out.trans hk3) (fun _ _ => id), HL.out.kept.trans (HKA.out.trans hk3), hsk.out, HL.out.low, by have := HCF.out; have := HNT.out; omega⟩⟩
          | true =>
            go_wp2_with fail
            refine HCC.out.mono ?_
            rintro e w3 ⟨rfl, hk3⟩
            have b2 := hk3.cell id a2
            have HK3 := Lib.hid (HKA.out.trans hk3)
            have HY3 : Hid (WtAt w3 w2.heap.size ⟨xa, xb, xc⟩) := Lib.hid (hk3.heap id HYA.out)
            obtain ⟨dl, HDL⟩ : ∃ x, Hid (pAll r.decls = x) := ⟨_, rfl⟩
            have HAL := all_any w3 dv r.decls (decls_firm.kept HDS.out HK3.out) (by omega) HVL.out m ((HL.out.kept.trans HK3.out).cell id HM.out)
            rw [HDL.out] at HAL
            replace HAL := Lib.hid HAL
            clear a0 a2 hk3
            go_wp2_with fail
            refine HAL.out.mono ?_
            intro e w4 he4
            cases dl with
            | none =>
              obtain ⟨rfl, hb4⟩ := he4
              have hrr : Hid (R = .bad ⟨5, 0⟩) := Lib.hid (by rw [← HL.out.rest]; exact contR_bad HX.out (by rw [HBS.out, HCN.out]; rfl) HDL.out)
              go_wp2_with fail
              refine bodyPost_ret (v := .tuple #[.slice none 0 0, .int .i64 5]) (by simp [results, Tryz.results46, go_sem]) rfl ?_
              rw [hrr.out]
              exact ⟨rfl, (HL.out.kept.trans HK3.out).trans (Kept.of_below hb4)⟩
            | some d =>
              obtain ⟨lv, rfl, hb4, hd4⟩ := he4
              obtain ⟨la, lc, rfl, hlc1, hlc2⟩ := DeclsIn.form hd4
              unfold maxLen at hlc2
              have hdlen := pAll_len HDL.out
              have hsk : Hid (contR ns (k : Int) n rs media (cs ++ d.map fun x => (⟨x, false, ⟨xa, xb, xc⟩⟩ : PClaim)) (i + 1) = R) := Lib.hid (by
                have := contR_more HX.out (by rw [HBS.out, HCN.out]; rfl) HDL.out (cs := cs) (n := n)
                rw [HBS.out] at this
                rw [← this]; exact HL.out.rest)
              have HD4 : Hid (DeclsAt w4 (.slice la d.length lc) d) := Lib.hid hd4.1
              have HK4 := Lib.hid (HK3.out.trans (Kept.of_below hb4))
              have HY4 : Hid (WtAt w4 w2.heap.size ⟨xa, xb, xc⟩) := Lib.hid ((Kept.of_below (S := fun _ => False) hb4).heap id HY3.out)
              have HOW4 := Lib.hid (owns_kept HL.out.own HK4.out (fun _ _ => id))
              have hsz4 : w.heap.size ≤ w4.heap.size := (HL.out.kept.trans HK4.out).size
              have hdo : ∀ q, (Value.slice la d.length lc).ownBlock = some q → w3.heap.size ≤ q ∧ q < w4.heap.size := fun q hq => ⟨Nat.le_of_not_lt (hd4.2 q hq).1, (hd4.2 q hq).2⟩
              have hw23 : wr0.heap.size ≤ w2.heap.size := hkwz
              have hw33 : w2.heap.size < w3.heap.size := by have := ltIn HY3.out; exact this
              clear hb4 hd4 b2
              go_wp2_with fail
              go_loopw [10, 64] (fun v c wx => ∃ j : Nat, j ≤ d.length ∧ c = .int .i64 (j : Int) ∧ Hid (ILp w wr0.heap.size w4 wx v (cs ++ (d.take j).map fun x => (⟨x, false, ⟨xa, xb, xc⟩⟩ : PClaim)))) (fun _ c _ => d.length - (intOf c).toNat)
              case atStart => exact ⟨0, by omega, rfl, Lib.hid ⟨by simpa using HOW4.out, Kept.refl _ _, fun q hq => .inl (by have := (HL.out.own.lt q hq).2; omega)⟩⟩
              case round =>
                obtain ⟨j, hj, rfl, HI⟩ := hrel
                obtain ⟨wr1, hwr1⟩ : ∃ x, x = wr := ⟨_, rfl⟩
                subst hwr1
                obtain ⟨ao, ac, hvf⟩ := owns_form HI.out.own
                subst hvf
                have hwrs : w.heap.size ≤ wr0.heap.size := HL.out.kept.size
                by_cases hjlt : j < d.length
                · have hy := List.getElem?_eq_getElem hjlt
                  generalize hgy : d[j] = x at hy
                  clear hgy
                  have hlen : (cs ++ (d.take j).map fun x => (⟨x, false, ⟨xa, xb, xc⟩⟩ : PClaim)).length = cs.length + j := by simp; omega
                  have hnx : Hid ((cs ++ (d.take (j + 1)).map fun x => (⟨x, false, ⟨xa, xb, xc⟩⟩ : PClaim)) = (cs ++ (d.take j).map fun x => (⟨x, false, ⟨xa, xb, xc⟩⟩ : PClaim)) ++ [⟨x, false, ⟨xa, xb, xc⟩⟩]) := Lib.hid (by rw [List.take_add_one, hy, Option.toList_some]; simp)
                  obtain ⟨db, doff, rfl, t0, t1, t2⟩ := DeclsAt.at (RowsAt.kept HD4.out HI.out.kept (fun q hq => by have := hdo q hq; omega)) hy
                  have hyw : WtAt wr1 w2.heap.size ⟨xa, xb, xc⟩ := HI.out.kept.heap (by omega) HY4.out
                  generalize (cs ++ (d.take j).map fun x => (⟨x, false, ⟨xa, xb, xc⟩⟩ : PClaim)) = es at *
                  go_upto_region 13 with fail
                  obtain ⟨wd, HWD⟩ : ∃ x', Hid (wr1.alloc (.cells #[.string (str x.name), .string (str x.val), .bool x.strong] 98 (0, 0)) = x') := ⟨_, rfl⟩
                  have hdd : wd.heap[wr1.heap.size]? = some (.cells #[.string (str x.name), .string (str x.val), .bool x.strong] 98 (0, 0)) := by rw [← HWD.out]; exact newIn wr1 _
                  have HID : Hid (ILp w wr0.heap.size w4 wd (.slice ao es.length ac) es) := Lib.hid (by rw [← HWD.out]; exact HI.out.alloc _)
                  have hyd : WtAt wd w2.heap.size ⟨xa, xb, xc⟩ := by rw [← HWD.out]; exact oldIn hyw _
                  have d0 : wd.cell? ⟨wr1.heap.size, 0, none⟩ = some (.string (str x.name)) := cellIn hdd 0 rfl
                  have d1 : wd.cell? ⟨wr1.heap.size, 1, none⟩ = some (.string (str x.val)) := cellIn hdd 1 rfl
                  have d2 : wd.cell? ⟨wr1.heap.size, 2, none⟩ = some (.bool x.strong) := cellIn hdd 2 rfl
                  obtain ⟨y1, y2, y3⟩ := hyd.ints
                  simp only at y1 y2 y3
                  have hsd : w.heap.size ≤ wd.heap.size := by have := ltIn hdd; have := HI.out.kept.size; omega
                  have hel : es.length ≤ 1099511627776 + 4194304 := by omega
                  rw [HWD.out]
                  clear hdd hyd hyw t0 t1 t2 hy
                  go_wp2_with (at_builtin; refine wpList_append_lies _ rfl _ _ _ rfl w.heap.size 128 i0 _ 7 72 Tryz.underlying119 hi0 hz0 hz1 hz2 rfl (by omega) _ es.length _ (by rfl) (HID.out.own.alloc _) ⟨wd.heap.size, 0, none⟩ 1 1 (claimCells ⟨x, false, ⟨xa, xb, xc⟩⟩) (by rfl) (by rfl) (World.news_of_block (cs := (claimCells ⟨x, false, ⟨xa, xb, xc⟩⟩).toArray) (t := 128) (fr := (0, 0)) (heap_alloc_new wd _)) (claim_one _) (by omega) (by unfold maxLen; omega) (by omega) (by simp; omega) (wd.heap.size + 1) (by simp) ?_; intro gg cap w15 hown15 hgrow15 hat15 hlt15)
                  have hpush := HID.out.push (v' := .slice (some ⟨gg, 0, none⟩) (es.length + 1) cap) (cs' := es ++ [⟨x, false, ⟨xa, xb, xc⟩⟩]) hsz4 hwrs hgrow15 hat15 (by rw [← claims_push, List.length_append]; exact hown15) rfl
                  have HPU := Lib.hid hpush
                  clear hpush hown15 hgrow15 hat15 d0 d1 d2 y1 y2 y3
                  go_wp2_with fail
                  go_roundw
                  case measure => simp [intOf]; omega
                  case rel => exact ⟨j + 1, by omega, by go_num, Lib.hid (by rw [hnx.out, ← hlen]; exact HPU.out)⟩
                · obtain rfl : j = d.length := by omega
                  have hfin : Hid (CLp w wr1 (.slice ao (cs ++ (d.take d.length).map fun x => (⟨x, false, ⟨xa, xb, xc⟩⟩ : PClaim)).length ac) ns (k : Int) n rs media R (i + 1) (cs ++ d.map fun x => (⟨x, false, ⟨xa, xb, xc⟩⟩ : PClaim))) := Lib.hid (by
                    have h1 := HI.out
                    rw [List.take_length] at h1 ⊢
                    refine ⟨h1.own, (HL.out.kept.trans HK4.out).trans' h1.kept (fun q hq hx => by omega), hsk.out, fun c hc => ?_, ?_⟩
                    · rcases List.mem_append.1 hc with hc | hc
                      · exact HL.out.low c hc
                      · obtain ⟨y, _, rfl⟩ := List.mem_map.1 hc
                        exact HLW.out
                    · have h2 := HCF.out
                      have h3 := HNT.out
                      rw [List.length_append, List.length_map, h3]
                      omega)
                  go_wp2_with fail
                  go_roundw
                  case measure => simp [intOf]; omega
                  case rel => exact ⟨i + 1, _, by omega, by go_num, hfin⟩
      · obtain rfl : i = rs.length := by omega
        go_wp2_with fail
        go_meet
        case rel => exact ⟨cs, HL⟩
  case rest =>
    obtain ⟨cs, HL⟩ := hcut
    obtain ⟨vo, vc, hvf⟩ := owns_form HL.out.own
    subst hvf
    have HR2 : Hid ((ownDecls n).then (fun b => Ans.ok (cs ++ ownClaims b)) = R) := Lib.hid (by rw [← contR_end (ns := ns) (k := (k : Int)) (rs := rs) (media := media)]; exact HL.out.rest)
    obtain ⟨nb, noff, av, rfl, g0, g1, g2, g3, g4, g5, hav⟩ := (nodes_firm.kept HV.out HL.out.kept).at HN.out
    have HGE := Lib.hid (get_any wc av n styleName hav)
    obtain ⟨⟨gv, gb⟩, HG⟩ : ∃ g, Hid (pGet n.attrs styleName = g) := ⟨_, rfl⟩
    rw [HG.out] at HGE
    have hgl : gv.length ≤ 1048576 := by have := get_short HC.out.nodes.short (List.mem_of_getElem? HN.out) styleName; rw [HG.out] at this; exact this
    have hcb : cs.length ≤ 1099511627776 := by have := HL.out.few; rw [List.take_length] at this; have := HC.out.decls; omega
    clear hav
    go_wp2_with fail
    refine HGE.out.mono ?_
    rintro e w2 ⟨rfl, hb2⟩
    have HK2 : Hid (Kept (fun _ => False) wc w2) := Lib.hid (Kept.of_below hb2)
    have HSD := sdeclsOf_any gv w2 m ((HL.out.kept.trans HK2.out).cell id HM.out) (by omega)
    obtain ⟨sd, HSDR⟩ : ∃ x, Hid (sDeclsOf gv = x) := ⟨_, rfl⟩
    rw [HSDR.out] at HSD
    replace HSD := Lib.hid HSD
    clear g0 g1 g2 g3 g4 g5 hb2
    go_wp2_with fail
    refine HSD.out.mono ?_
    intro e w3 he3
    cases sd with
    | bad f =>
      obtain ⟨rfl, hb3⟩ := he3
      have hne := (sdeclsOf_bad HSDR.out).1
      have hrr : Hid (R = .bad ⟨f.err, 0⟩) := Lib.hid (by rw [← HR2.out]; unfold ownDecls; rw [HG.out, HSDR.out]; rfl)
      have hneI : ((f.err : Int) != 0) = true := by simp; omega
      go_upto_region 18 with fail
      obtain ⟨wf, HWF⟩ : ∃ x, Hid (w3.alloc (.cells #[.int .i64 (f.err : Int), .int .i64 (f.pos : Int)] 26 (0, 0)) = x) := ⟨_, rfl⟩
      have hf0 : wf.cell? ⟨w3.heap.size, 0, none⟩ = some (.int .i64 (f.err : Int)) := by rw [← HWF.out]; exact cellIn (newIn w3 _) 0 rfl
      have HKF : Hid (Kept (fun _ => False) w wf) := Lib.hid (by rw [← HWF.out]; exact ((HL.out.kept.trans HK2.out).trans (Kept.of_below hb3)).alloc _)
      rw [HWF.out]
      clear hb3
      go_wp2_with fail
      go_quiet (fail)
      go_wp2_with fail
      refine bodyPost_ret (v := .tuple #[.slice none 0 0, .int .i64 (f.err : Int)]) (by simp [results, Tryz.results46, go_sem]) rfl ?_
      rw [hrr.out]
      exact ⟨rfl, HKF.out.drewN _⟩
    | ok ds =>
      obtain ⟨lv, rfl, hb3, hd3⟩ := he3
      obtain ⟨la, lc, rfl, hlc1, hlc2⟩ := DeclsIn.form hd3
      unfold maxLen at hlc2
      obtain ⟨hdok, hd20⟩ := declsOf_ok_of HSDR.out
      go_upto_region 18 with fail
      obtain ⟨wf, HWF⟩ : ∃ x, Hid (w3.alloc (.cells #[.int .i64 0, .int .i64 0] 26 (0, 0)) = x) := ⟨_, rfl⟩
      have hf0 : wf.cell? ⟨w3.heap.size, 0, none⟩ = some (.int .i64 0) := by rw [← HWF.out]; exact cellIn (newIn w3 _) 0 rfl
      have hkf : Kept (fun _ => False) wc wf := by rw [← HWF.out]; exact (HK2.out.trans (Kept.of_below hb3)).alloc _
      have hdf : DeclsAt wf (.slice la ds.length lc) ds := by rw [← HWF.out]; exact RowsAt.alloc hd3.1 _
      have HKF := Lib.hid hkf
      have HVL : Hid (∀ d ∈ ds, d.val.length ≤ 1048576) := Lib.hid (fun d hd => by obtain ⟨ws, _, _, _, hl⟩ := (hdok d hd).2; omega)
      rw [HWF.out]
      obtain ⟨dl, HDL⟩ : ∃ x, Hid (pAll ds = x) := ⟨_, rfl⟩
      have HAL := all_any wf _ ds hdf (by omega) HVL.out m ((HL.out.kept.trans hkf).cell id HM.out)
      rw [HDL.out] at HAL
      replace HAL := Lib.hid HAL
      have hsf : wc.heap.size ≤ wf.heap.size := hkf.size
      clear hb3 hd3 hkf hdf hdok
      go_wp2_with fail
      refine HAL.out.mono ?_
      intro e w4 he4
      cases dl with
      | none =>
        obtain ⟨rfl, hb4⟩ := he4
        have hrr : Hid (R = .bad ⟨5, 0⟩) := Lib.hid (by rw [← HR2.out]; unfold ownDecls; rw [HG.out, HSDR.out]; simp only; rw [HDL.out]; rfl)
        go_wp2_with fail
        refine bodyPost_ret (v := .tuple #[.slice none 0 0, .int .i64 5]) (by simp [results, Tryz.results46, go_sem]) rfl ?_
        rw [hrr.out]
        exact ⟨rfl, (HL.out.kept.trans HKF.out).trans (Kept.of_below hb4)⟩
      | some d =>
        obtain ⟨lv, rfl, hb4, hd4⟩ := he4
        obtain ⟨la2, lc2, rfl, hlc3, hlc4⟩ := DeclsIn.form hd4
        unfold maxLen at hlc4
        have hdlen := pAll_len HDL.out
        have hrr : Hid (R = .ok (cs ++ ownClaims d)) := Lib.hid (by rw [← HR2.out]; unfold ownDecls; rw [HG.out, HSDR.out]; simp only; rw [HDL.out]; rfl)
        have HD4 : Hid (DeclsAt w4 (.slice la2 d.length lc2) d) := Lib.hid hd4.1
        have HK4 := Lib.hid (HKF.out.trans (Kept.of_below hb4))
        have HOW4 := Lib.hid (owns_kept HL.out.own HK4.out (fun _ _ => id))
        have hsz4 : w.heap.size ≤ w4.heap.size := (HL.out.kept.trans HK4.out).size
        have hdo : ∀ q, (Value.slice la2 d.length lc2).ownBlock = some q → wf.heap.size ≤ q ∧ q < w4.heap.size := fun q hq => ⟨Nat.le_of_not_lt (hd4.2 q hq).1, (hd4.2 q hq).2⟩
        have hwrs : w.heap.size ≤ wc.heap.size := HL.out.kept.size
        clear hb4 hd4
        go_wp2_with fail
        go_loopw [10, 104] (fun v c wx => ∃ j : Nat, j ≤ d.length ∧ c = .int .i64 (j : Int) ∧ Hid (ILp w wc.heap.size w4 wx v (cs ++ (d.take j).map fun x => (⟨x, true, ⟨0, 0, 0⟩⟩ : PClaim)))) (fun _ c _ => d.length - (intOf c).toNat)
        case atStart => exact ⟨0, by omega, rfl, Lib.hid ⟨by simpa using HOW4.out, Kept.refl _ _, fun q hq => .inl (by have := (HL.out.own.lt q hq).2; omega)⟩⟩
        case round =>
          obtain ⟨j, hj, rfl, HI⟩ := hrel
          obtain ⟨wr1, hwr1⟩ : ∃ x, x = wr := ⟨_, rfl⟩
          subst hwr1
          obtain ⟨ao, ac, hvf⟩ := owns_form HI.out.own
          subst hvf
          by_cases hjlt : j < d.length
          · have hy := List.getElem?_eq_getElem hjlt
            generalize hgy : d[j] = x at hy
            clear hgy
            have hlen : (cs ++ (d.take j).map fun x => (⟨x, true, ⟨0, 0, 0⟩⟩ : PClaim)).length = cs.length + j := by simp; omega
            have hnx : Hid ((cs ++ (d.take (j + 1)).map fun x => (⟨x, true, ⟨0, 0, 0⟩⟩ : PClaim)) = (cs ++ (d.take j).map fun x => (⟨x, true, ⟨0, 0, 0⟩⟩ : PClaim)) ++ [⟨x, true, ⟨0, 0, 0⟩⟩]) := Lib.hid (by rw [List.take_add_one, hy, Option.toList_some]; simp)
            obtain ⟨db, doff, rfl, t0, t1, t2⟩ := DeclsAt.at (RowsAt.kept HD4.out HI.out.kept (fun q hq => by have := hdo q hq; omega)) hy
            generalize (cs ++ (d.take j).map fun x => (⟨x, true, ⟨0, 0, 0⟩⟩ : PClaim)) = es at *
            go_upto_region 26 with fail
            obtain ⟨wd, HWD⟩ : ∃ x', Hid (wr1.alloc (.cells #[.string (str x.name), .string (str x.val), .bool x.strong] 98 (0, 0)) = x') := ⟨_, rfl⟩
            have hdd : wd.heap[wr1.heap.size]? = some (.cells #[.string (str x.name), .string (str x.val), .bool x.strong] 98 (0, 0)) := by rw [← HWD.out]; exact newIn wr1 _
            have HID : Hid (ILp w wc.heap.size w4 wd (.slice ao es.length ac) es) := Lib.hid (by rw [← HWD.out]; exact HI.out.alloc _)
            have d0 : wd.cell? ⟨wr1.heap.size, 0, none⟩ = some (.string (str x.name)) := cellIn hdd 0 rfl
            have d1 : wd.cell? ⟨wr1.heap.size, 1, none⟩ = some (.string (str x.val)) := cellIn hdd 1 rfl
            have d2 : wd.cell? ⟨wr1.heap.size, 2, none⟩ = some (.bool x.strong) := cellIn hdd 2 rfl
            have hsd : w.heap.size ≤ wd.heap.size := by have := ltIn hdd; have := HI.out.kept.size; omega
            have hel : es.length ≤ 1099511627776 + 80 := by omega
            rw [HWD.out]
            clear hdd t0 t1 t2 hy
            go_wp2_with (at_builtin; refine wpList_append_lies _ rfl _ _ _ rfl w.heap.size 128 i0 _ 7 72 Tryz.underlying119 hi0 hz0 hz1 hz2 rfl (by omega) _ es.length _ (by rfl) (HID.out.own.alloc _) ⟨wd.heap.size, 0, none⟩ 1 1 (claimCells ⟨x, true, ⟨0, 0, 0⟩⟩) (by rfl) (by rfl) (World.news_of_block (cs := (claimCells ⟨x, true, ⟨0, 0, 0⟩⟩).toArray) (t := 128) (fr := (0, 0)) (heap_alloc_new wd _)) (claim_one _) (by omega) (by unfold maxLen; omega) (by omega) (by simp; omega) (wd.heap.size + 1) (by simp) ?_; intro gg cap w15 hown15 hgrow15 hat15 hlt15)
            have hpush := HID.out.push (v' := .slice (some ⟨gg, 0, none⟩) (es.length + 1) cap) (cs' := es ++ [⟨x, true, ⟨0, 0, 0⟩⟩]) hsz4 hwrs hgrow15 hat15 (by rw [← claims_push, List.length_append]; exact hown15) rfl
            have HPU := Lib.hid hpush
            clear hpush hown15 hgrow15 hat15 d0 d1 d2
            go_wp2_with fail
            go_roundw
            case measure => simp [intOf]; omega
            case rel => exact ⟨j + 1, by omega, by go_num, Lib.hid (by rw [hnx.out, ← hlen]; exact HPU.out)⟩
          · obtain rfl : j = d.length := by omega
            go_wp2_with fail
            refine bodyPost_ret (v := .tuple #[.slice ao (cs ++ (d.take d.length).map fun x => (⟨x, true, ⟨0, 0, 0⟩⟩ : PClaim)).length ac, .int .i64 0]) (by simp [results, Tryz.results46, go_sem]) rfl ?_
            rw [hrr.out]
            have h1 := HI.out
            rw [List.take_length] at h1 ⊢
            refine ⟨_, rfl, (HL.out.kept.trans HK4.out).trans' h1.kept (fun q hq hx => by omega), h1.own, fun c hc => ?_, ?_⟩
            · rcases List.mem_append.1 hc with hc | hc
              · exact HL.out.low c hc
              · obtain ⟨y, _, rfl⟩ := List.mem_map.1 hc
                exact ⟨Nat.zero_le _, Nat.zero_le _, Nat.zero_le _⟩
            · unfold ownClaims
              rw [List.length_append, List.length_map]
              omega
end Go.Proofs.YtplbdlgmjehckadGreatDoor

namespace Go.Proofs.YtplbdlgmjehckadGreatDoor
open Go.RowKit Go.ChangeShapes Go.WideShapes Go.Deep
set_option linter.unusedVariables false
set_option linter.unusedSimpArgs false
abbrev bulk {H : Type} (d : DataW H) : Nat := Rows.uptoBulk d
section
variable {H : Type} {enc : TypeId × Value → H} {P : Program} {w : World} {spare : Nat → Bool} {held : Bool}
end
def I64 (n : Int) : Prop := -9223372036854775808 ≤ n ∧ n ≤ 9223372036854775807
section
variable {α : Type}
end
def wtStr (s : B) : Nat := s.length + 1
def wtDecl (d : PDecl) : Nat := d.name.length + d.val.length + 4
section
variable {H : Type} {enc : TypeId × Value → H} {w : World} {spare : Nat → Bool} {held : Bool}
end
end Go.Proofs.YtplbdlgmjehckadGreatDoor

namespace Go.Proofs.YtplbdlgmjehckadGreatDoor
open Go.RowKit Go.ChangeShapes Go.WideShapes Go.Deep
set_option linter.unusedVariables false
set_option linter.unusedSimpArgs false
def wtAttr (a : PAttr) : Nat := a.name.length + a.val.length + 1
def wtNode (n : PNode) : Nat := (n.attrs.map wtAttr).sum + n.name.length + 1
def wtTest (t : PTest) : Nat := t.name.length + t.val.length + 1
def wtPart (p : PPart) : Nat := (p.tests.map wtTest).sum + 1
def wtSel (s : PSel) : Nat := (s.map wtPart).sum + 1
def wtRule (r : PRule) : Nat := (r.sels.map wtSel).sum + (r.decls.map wtDecl).sum + 1
section
variable {H : Type} {enc : TypeId × Value → H} {w : World} {spare : Nat → Bool} {held : Bool}
end
end Go.Proofs.YtplbdlgmjehckadGreatDoor

