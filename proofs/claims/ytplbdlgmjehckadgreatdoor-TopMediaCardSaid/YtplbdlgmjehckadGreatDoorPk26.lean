/-
  Lemmas for the claims of this seat: the program's functions walked, and plain laws. In this order: FoFoldW FoAlive6 Bts TpWalk TpFold CdFrame.
-/
import Derived.Test.YtplbdlgmjehckadGreatDoorPk19
import Derived.Test.YtplbdlgmjehckadGreatDoorPk23
import Derived.Test.YtplbdlgmjehckadGreatDoorPk24
import Derived.Test.YtplbdlgmjehckadGreatDoorPk25
import Derived.Test.YtplbdlgmjehckadGreatDoorPk8
import Derived.Test.YtplbdlgmjehckadGreatDoorPk9
import Derived.Lib.ConvBytes
import Derived.Test.YtplbdlgmjehckadGreatDoorPk17
import Derived.Test.YtplbdlgmjehckadGreatDoorTie
import Derived.Test.YtplbdlgmjehckadGreatDoorCards
import Derived.HandedShaped
import Derived.ProofKit
import Derived.Shelf.Vars
import Derived.Deep.DeepHandedRow
import Derived.Deep.DeepWitnessRowRef
namespace Go.Proofs.YtplbdlgmjehckadGreatDoor
open Go.RowKit
set_option linter.unusedVariables false
set_option linter.unusedSimpArgs false
def foldV (r : Ans B) : Value := match r with
  | .bad f => .tuple #[.string ⟨#[]⟩, .agg #[.int .i64 (f.err : Int), .int .i64 (f.pos : Int)]]
  | .ok t => .tuple #[.string (str t), .agg #[.int .i64 0, .int .i64 0]]
theorem foldV_many (p : Nat) : foldV (.bad ⟨5, p⟩) = .tuple #[.string ⟨#[]⟩, .agg #[.int .i64 5, .int .i64 (p : Int)]] := rfl
theorem foldV_much : foldV (.bad ⟨4, 0⟩) = .tuple #[.string ⟨#[]⟩, .agg #[.int .i64 4, .int .i64 0]] := rfl
theorem foldV_ok (t : B) : foldV (.ok t) = .tuple #[.string (str t), .agg #[.int .i64 0, .int .i64 0]] := rfl
def FoldEnds (w : World) (s : B) (e : Ending) (w' : World) : Prop :=
  Kept (fun _ => False) w w' ∧ match fRead s with
    | .bad f => e = .returned (foldV (.bad f))
    | .ok x => ∃ st, IsStays x.1 x.2 st ∧ e = .returned (foldV (fFold s x.1 x.2 st))
theorem stays_kind {w : World} {ns : List PNode} {rules : List PRule} {e : Ending} {w' : World} (h : StaysEnds w ns rules e w') : ∃ (bs : Nat) (st : List Bool), e = .returned (.slice (some ⟨bs, 0, none⟩) rules.length rules.length) ∧ IsStays ns rules st ∧ w'.heap[bs]? = some (.cells (st.map Value.bool).toArray 4 (0, 0)) ∧ w.heap.size ≤ bs ∧ Kept (fun _ => False) w w' := h
set_option maxRecDepth 100000 in
set_option maxHeartbeats 6400000 in
theorem fold_any (s : B) (m : Int) (w : World) (hm : w.cell? ⟨0, 0, none⟩ = some (.int .i64 m)) (hs : s.length ≤ 9223372036854775807) :
    Calls Tryz.prog 6 #[.string (str s)] w (FoldEnds w s) := by
  have HM := Lib.hid hm
  obtain ⟨w0, HW0⟩ : ∃ x, Hid (w.alloc (.cells #[.int .i64 0, .int .i64 0] 26 (0, 0)) = x) := ⟨_, rfl⟩
  have HK0 : Hid (Kept (fun _ => False) w w0) := Lib.hid (by rw [← HW0.out]; exact (Kept.refl _ w).alloc _)
  have HPUT : Hid (∀ wx, Kept (fun _ => False) w0 wx → ∀ x y, _) := Lib.hid (fun wx hk x y => rd_put (by rw [HW0.out]; exact hk) x y)
  obtain ⟨P0, HP⟩ : ∃ P, Hid (fRead s = P) := ⟨_, rfl⟩
  have HCP := read_any s m w0 (HK0.out.cell id hm) hs
  rw [HP.out] at HCP
  replace HCP := Lib.hid HCP
  clear hm
  go_enter Tryz.func6, Tryz.ntmps6
  go_upto_region 1 with fail
  rw [HW0.out]
  go_wp2_with fail
  refine HCP.out.mono ?_
  intro e w1 he1
  cases P0 with
  | bad f =>
    obtain ⟨rfl, hk1⟩ := he1
    unfold rdBad
    have hne : ((f.err : Int) != 0) = true := by
      have := read_err HP.out; simp; omega
    obtain ⟨wb, HWB⟩ : ∃ x, Hid (w1.alloc (.cells #[.int .i64 (f.err : Int), .int .i64 (f.pos : Int)] 26 (0, 0)) = x) := ⟨_, rfl⟩
    have hkb : Kept (fun _ => False) w0 wb := by rw [← HWB.out]; exact hk1.alloc _
    have c0 : wb.cell? ⟨w1.heap.size, 0, none⟩ = some (.int .i64 (f.err : Int)) := by rw [← HWB.out]; exact cellIn (newIn w1 _) 0 rfl
    have c1 : wb.cell? ⟨w1.heap.size, 1, none⟩ = some (.int .i64 (f.pos : Int)) := by rw [← HWB.out]; exact cellIn (newIn w1 _) 1 rfl
    obtain ⟨d, g0, g1, f0, f1⟩ := HPUT.out wb hkb (.int .i64 (f.err : Int)) (.int .i64 (f.pos : Int))
    have HD := Lib.hid d
    go_upto_region 2 with fail
    rw [HWB.out]
    clear hk1 hkb d
    go_wp2_with fail
    go_region
    go_wp2_with fail
    obtain ⟨q0, q1, q2⟩ := HD.out
    revert q0 q1 q2
    generalize hwf : ((wb.setCell ⟨w.heap.size, 0, none⟩ (.int .i64 (f.err : Int))).setCell ⟨w.heap.size, 1, none⟩ (.int .i64 (f.pos : Int))) = wf
    intro q0 q1 q2
    have p0 : wf.drew.cell? ⟨w.heap.size, 0, none⟩ = some (.int .i64 (f.err : Int)) := q0
    have p1 : wf.drew.cell? ⟨w.heap.size, 1, none⟩ = some (.int .i64 (f.pos : Int)) := q1
    refine bodyPost_ret (v := .tuple #[.string ⟨#[]⟩, .agg #[.int .i64 (f.err : Int), .int .i64 (f.pos : Int)]]) (by simp [results, Tryz.results6, go_sem, p0, p1]) rfl ?_
    refine ⟨q2.drew, ?_⟩
    rw [HP.out]
    exact rfl
  | ok x =>
    obtain ⟨l, rules⟩ := x
    obtain ⟨lv, rv, rfl, hk1, hl1, hr1⟩ := he1
    have hlim := read_lim HP.out
    obtain ⟨T, hT⟩ := read_as HP.out
    have HLIM := Lib.hid hlim
    have HT := Lib.hid hT
    have hs6 := hlim.len
    have hl6 := hlim.nodes
    have hr6 := hlim.most
    obtain ⟨la, lc, rfl, hlc1, hlc2⟩ := NodesAt.form hl1
    obtain ⟨ra, rc, rfl, hrc1, hrc2⟩ := NestAt.form hr1
    unfold maxLen at hlc2 hrc2
    obtain ⟨wb, HWB⟩ : ∃ x, Hid (w1.alloc (.cells #[.int .i64 0, .int .i64 0] 26 (0, 0)) = x) := ⟨_, rfl⟩
    have hk1b : Kept (fun _ => False) w1 wb := by rw [← HWB.out]; exact (Kept.refl _ w1).alloc _
    have HKB := Lib.hid (hk1.trans hk1b)
    have HLB : Hid (NodesAt wb (.slice la l.length lc) l) := Lib.hid (nodes_firm.kept hl1 hk1b)
    have HRB : Hid (RulesAt wb (.slice ra rules.length rc) rules) := Lib.hid (rules_firm.kept hr1 hk1b)
    have c0 : wb.cell? ⟨w1.heap.size, 0, none⟩ = some (.int .i64 0) := by rw [← HWB.out]; exact cellIn (newIn w1 _) 0 rfl
    have HCS := Lib.hid (stays_any l rules (hlim.ca (gone := rules) (fun r h => h) (Nat.le_refl _)) m wb _ _ HLB.out HRB.out ((HK0.out.trans HKB.out).cell id HM.out))
    clear hk1 hl1 hr1 hk1b hlim hT
    go_upto_region 2 with fail
    rw [HWB.out]
    go_wp2_with fail
    refine HCS.out.mono ?_
    intro e w2 he2
    obtain ⟨bs, st, rfl, hst, hbs, hbsz, hk2⟩ := stays_kind he2
    have HST := Lib.hid hst
    have HBS := Lib.hid hbs
    have HK2 := Lib.hid (HKB.out.trans hk2)
    have HL2 : Hid (NodesAt w2 (.slice la l.length lc) l) := Lib.hid (nodes_firm.kept HLB.out hk2)
    have HR2 : Hid (RulesAt w2 (.slice ra rules.length rc) rules) := Lib.hid (rules_firm.kept HRB.out hk2)
    have hslen : st.length = rules.length := hst.len
    clear hst hbs hbsz hk2 he2
    go_wp2_with fail
    go_loopw [7, 8, 36] (fun g u c wr => ∃ i : Nat, i ≤ rules.length ∧ c = .int .i64 (i : Int) ∧ Hid (FRows w2 wr g u (goneR (rules.take i) (st.take i)) ((goneR (rules.take i) (st.take i)).map goneEd))) (fun _ _ c _ => rules.length - (intOf c).toNat)
    case atStart => exact ⟨0, by omega, rfl, Lib.hid ⟨GRow.nil _ _, World.ownsRow_nil _ _ _ _, Kept.refl _ _⟩⟩
    case round =>
      obtain ⟨i, hi, rfl, HF⟩ := hrel
      obtain ⟨wr0, hwr0⟩ : ∃ x, x = wr := ⟨_, rfl⟩
      subst hwr0
      obtain ⟨ga, gc, rfl⟩ := HF.out.gone.form
      obtain ⟨ea, ec, rfl⟩ := owns_form HF.out.eds
      by_cases hlt : i < rules.length
      · have hx := List.getElem?_eq_getElem hlt
        generalize hgx : rules[i] = r at hx
        clear hgx
        obtain ⟨b, hb⟩ : ∃ b, st[i]? = some b := ⟨_, List.getElem?_eq_getElem (by rw [hslen]; exact hlt)⟩
        have HSTEP := Lib.hid (goneR_take hx hb)
        have hgl : (goneR (rules.take i) (st.take i)).length ≤ 60 := by
          have := (goneR_sub (rs := rules.take i) (bs := st.take i)).2
          simp at this; omega
        obtain ⟨rb, ro, u, rfl, hcs, hru⟩ := NestAt.at HR2.out hx
        have HRU := Lib.hid hru
        obtain ⟨sv, dv, rfl, hss, hds⟩ := hru
        obtain ⟨sa, sc, rfl, _, _⟩ := NestAt.form hss
        obtain ⟨da, dc, rfl, _, _⟩ := DeclsAt.form hds
        obtain ⟨_, hr0, hr1, hr2⟩ := HLIM.out.rule r (List.mem_of_getElem? hx)
        obtain ⟨lo, hlo⟩ : ∃ lo : Nat, r.lo = lo := ⟨r.lo.toNat, by omega⟩
        obtain ⟨hi', hhi⟩ : ∃ hi : Nat, r.hi = hi := ⟨r.hi.toNat, by omega⟩
        have HCSW : Hid (∀ wx, Kept (fun _ => False) w2 wx → wx.cell? ⟨rb, ro + i * 5, none⟩ = some (.string (str r.media)) ∧ wx.cell? ⟨rb, ro + i * 5 + 1, none⟩ = some (.slice sa r.sels.length sc) ∧ wx.cell? ⟨rb, ro + i * 5 + 2, none⟩ = some (.slice da r.decls.length dc) ∧ wx.cell? ⟨rb, ro + i * 5 + 3, none⟩ = some (.int .i64 (lo : Int)) ∧ wx.cell? ⟨rb, ro + i * 5 + 4, none⟩ = some (.int .i64 (hi' : Int))) := Lib.hid (fun wx hk =>
          ⟨hk.cell id (hcs 0 _ rfl), hk.cell id (hcs 1 _ rfl), hk.cell id (hcs 2 _ rfl), by have := hk.cell id (hcs 3 _ rfl); rwa [hlo] at this, by have := hk.cell id (hcs 4 _ rfl); rwa [hhi] at this⟩)
        have sb : wr0.cell? ⟨bs, i, none⟩ = some (.bool b) := HF.out.kept.cell id (cellIn HBS.out i (by simp [hb]))
        have HED : Hid (goneEd r = ⟨lo, hi', [32]⟩) := Lib.hid (by unfold goneEd; rw [hlo, hhi]; rfl)
        have HRC : Hid (ruleCells r (.tuple #[.slice sa r.sels.length sc, .slice da r.decls.length dc]) = [.string (str r.media), .slice sa r.sels.length sc, .slice da r.decls.length dc, .int .i64 (lo : Int), .int .i64 (hi' : Int)]) := Lib.hid (by unfold ruleCells; rw [hlo, hhi]; rfl)
        generalize goneR (rules.take i) (st.take i) = qs at *
        have hql : (qs.map goneEd).length = qs.length := by simp
        rw [hql]
        clear hcs hss hds hx hb hr0 hr1 hr2 hlo hhi
        cases b with
        | true =>
          have HN : Hid (goneR (rules.take (i + 1)) (st.take (i + 1)) = qs) := Lib.hid (by rw [HSTEP.out]; simp)
          go_wp2_with fail
          go_roundw
          case measure => simp [intOf]; omega
          case rel => exact ⟨i + 1, by omega, by go_num, Lib.hid (by have h := HF.out; rw [hql] at h; rw [HN.out]; exact h)⟩
        | false =>
          have HN : Hid (goneR (rules.take (i + 1)) (st.take (i + 1)) = qs ++ [r]) := Lib.hid (by rw [HSTEP.out]; simp)
          obtain ⟨c0, c1, c2, c3, c4⟩ := HCSW.out wr0 HF.out.kept
          obtain ⟨a', c', w', hr', hf'⟩ := HF.out.pushG r _ HRU.out (by omega)
          rw [HRC.out] at hr'
          have HR' := Lib.hid hr'
          have HF' := Lib.hid hf'
          obtain ⟨d0, d1, d2, d3, d4⟩ := HCSW.out w' hf'.kept
          obtain ⟨a2, c2', w3, hr3, hf3⟩ := hf'.pushE ⟨lo, hi', [32]⟩ (by simp; omega)
          have hst : str [32] = ⟨#[32]⟩ := rfl
          rw [hql] at hr3 hf3
          simp only [hst] at hr3
          have HR3 := Lib.hid hr3
          have HF3 := Lib.hid hf3
          have HN2 : Hid ((goneR (rules.take (i + 1)) (st.take (i + 1))).map goneEd = qs.map goneEd ++ [⟨lo, hi', [32]⟩]) := Lib.hid (by rw [HN.out, List.map_append, List.map_cons, HED.out]; rfl)
          clear hr' hf' hr3 hf3
          go_upto_region 11 with (at_builtin; refine wpList_append_eq (by rfl) _ _ _ rfl _ _ _ rfl rfl _ HR'.out ?_)
          go_wp2_with (at_builtin; refine wpList_append_eq (by rfl) _ _ _ rfl _ _ _ rfl rfl _ HR3.out ?_)
          go_roundw
          case measure => simp [intOf]; omega
          case rel => exact ⟨i + 1, by omega, by go_num, Lib.hid (by rw [HN2.out, HN.out]; exact HF3.out)⟩
      · obtain rfl : i = rules.length := by omega
        obtain ⟨gone, HG⟩ : ∃ x, Hid (goneR rules st = x) := ⟨_, rfl⟩
        have hF : FRows w2 wr0 (.slice ga (goneR (rules.take rules.length) (st.take rules.length)).length gc) (.slice ea ((goneR (rules.take rules.length) (st.take rules.length)).map goneEd).length ec) (goneR (rules.take rules.length) (st.take rules.length)) ((goneR (rules.take rules.length) (st.take rules.length)).map goneEd) := HF.out
        have htk : goneR (rules.take rules.length) (st.take rules.length) = gone := by rw [List.take_length, List.take_of_length_le (by omega), HG.out]
        rw [htk] at hF ⊢
        have hgsub := goneR_sub (rs := rules) (bs := st)
        rw [HG.out] at hgsub
        have hgl : gone.length ≤ 60 := by have := hgsub.2; omega
        have HGS := Lib.hid hgsub
        obtain ⟨R, HR⟩ : ∃ x, Hid (fFold s l rules st = x) := ⟨_, rfl⟩
        have HEND : Hid (∀ w', Kept (fun _ => False) w w' → FoldEnds w s (.returned (foldV R)) w') := Lib.hid (fun w' hk => by
          refine ⟨hk, ?_⟩
          rw [HP.out]
          exact ⟨st, HST.out, by rw [HR.out]⟩)
        have HE0 : Hid (((ownsEd l gone 0 (l.drop 0)).then fun es => foldFin s (gone.map goneEd ++ es)) = R) := Lib.hid (by
          rw [← HR.out, fFold_eq, HG.out]; rfl)
        have HFF := Lib.hid hF
        have hml : (gone.map goneEd).length = gone.length := by simp
        rw [hml] at HFF ⊢
        have HW2 := Lib.hid (HK0.out.trans HK2.out)
        clear hF htk hgsub HF
        have HE1 : Hid (∃ es0, gone.map goneEd = gone.map goneEd ++ es0 ∧ ∀ es', ownsEd l gone 0 (l.drop 0) = .ok es' → ownsEd l gone 0 l = .ok (es0 ++ es')) := Lib.hid ⟨[], by simp, fun es' h => h⟩
        have HTX0 : Hid (∀ e ∈ gone.map goneEd, e.text.length ≤ 2000) := Lib.hid (by
          intro e he
          obtain ⟨r, _, rfl⟩ := List.mem_map.1 he
          simp [goneEd])
        go_wp2_with fail
        go_loopw [8, 62] (fun u c wr => ∃ (k : Nat) (E : List PEdit), k ≤ l.length ∧ c = .int .i64 (k : Int) ∧ E.length ≤ 60 + k ∧ Hid (∀ e ∈ E, e.text.length ≤ 2000) ∧ Hid (FRows w2 wr (.slice ga gone.length gc) u gone E) ∧
          Hid (((ownsEd l gone k (l.drop k)).then fun es => foldFin s (E ++ es)) = R) ∧ Hid (∃ es0, E = gone.map goneEd ++ es0 ∧ ∀ es', ownsEd l gone k (l.drop k) = .ok es' → ownsEd l gone 0 l = .ok (es0 ++ es'))) (fun _ c _ => l.length - (intOf c).toNat)
        case atStart => exact ⟨0, gone.map goneEd, by omega, rfl, by simp; omega, HTX0, by rw [← hml]; rw [← hml] at HFF; exact HFF, HE0, HE1⟩
        case round =>
          obtain ⟨k, E, hk, rfl, hE, HTX, HF, HE, HE2⟩ := hrel
          obtain ⟨wr1, hwr1⟩ : ∃ x, x = wr := ⟨_, rfl⟩
          subst hwr1
          obtain ⟨ea', ec', rfl⟩ := owns_form HF.out.eds
          by_cases hlt : k < l.length
          · have hx := List.getElem?_eq_getElem hlt
            have hdr := List.drop_eq_getElem_cons hlt
            generalize hgx : l[k] = n at hx hdr
            clear hgx
            have he := HE.out
            rw [hdr, owns_step] at he
            have hes := HE2.out
            rw [hdr] at hes
            have HES := Lib.hid hes
            obtain ⟨look, hlk1, hlk2, hlk3, hlk4, hlk5⟩ := look_lim HT.out HLIM.out HGS.out.1 HGS.out.2 hx
            have hlo : lookOf (cDeclared l (k : Int) gone []) = look := by rw [hlk1]; rfl
            have HWM := Lib.hid (HW2.out.trans HF.out.kept)
            have HCST := style_any l gone (HLIM.out.ca HGS.out.1 HGS.out.2) k (by omega) (by
              rw [hlo]
              exact ⟨by omega, fun d hd => by have := declOk_lim (hlk3 d hd); omega⟩) m wr1 _ _ (nodes_firm.kept HL2.out HF.out.kept) (HF.out.gone.reads HF.out.kept) (HWM.out.cell id HM.out)
            have htl : (styleText l k gone).2 = true → (styleText l k gone).1.length ≤ 1900 := fun h => by
              rw [hlk5] at h
              rw [hlk4]
              have := print_le hlk3
              simp at h
              omega
            obtain ⟨tx, htx⟩ : ∃ x, (styleText l k gone).1 = x := ⟨_, rfl⟩
            obtain ⟨ok, hok⟩ : ∃ x, (styleText l k gone).2 = x := ⟨_, rfl⟩
            rw [htx, hok] at HCST htl he
            have HCST := Lib.hid HCST
            have HTL := Lib.hid htl
            have HEE := Lib.hid he
            have HX := Lib.hid hx
            have HDR := Lib.hid hdr
            have HSTX := Lib.hid htx
            have HSOK := Lib.hid hok
            clear he hes hlk1 hlk2 hlk3 hlk4 hlk5 hlo htl htx hok hx hdr
            go_wp2_with fail
            refine HCST.out.mono ?_
            rintro e w5 ⟨rfl, hk5⟩
            have HF5 := Lib.hid (HF.out.still hk5)
            clear hk5
            obtain ⟨nb, noff, av, rfl, g0, g1, g2, g3, g4, g5, hav⟩ := (nodes_firm.kept HL2.out HF5.out.kept).at HX.out
            obtain ⟨aa, acap, rfl, hac1, hac2⟩ := hav.form
            unfold maxLen at hac2
            have hnl := HLIM.out.node n (List.mem_of_getElem? HX.out)
            have hn8 := HLIM.out.attrs n (List.mem_of_getElem? HX.out)
            obtain ⟨ne, hne⟩ : ∃ x : Nat, n.nameEnd = x := ⟨n.nameEnd.toNat, by have := hnl.nameEnd.1; omega⟩
            rw [hne] at g3
            have HNE := Lib.hid hne
            have HNL := Lib.hid hnl
            obtain ⟨⟨old, had⟩, HG⟩ : ∃ G, Hid (pGet n.attrs styleName = G) := ⟨_, rfl⟩
            have HCG : Hid (Calls Tryz.prog 13 #[.agg #[.string (str n.name), .int .i64 n.parent, .slice aa n.attrs.length acap, .int .i64 (ne : Int), .int .i64 n.inF, .int .i64 n.inT], .string (str styleName)] w5 fun e w' => e = .returned (.tuple #[.string (str old), .bool had]) ∧ Below w5.heap.size w5 w') := Lib.hid (by
              have := get_any w5 _ n styleName hav
              unfold GetEnds at this
              rw [HG.out, hne] at this
              exact this)
            have hb := HEE.out
            rw [HG.out, hne, Int.toNat_natCast] at hb
            have HB := Lib.hid hb
            clear hav hnl hne hb
            have hbad : (ok = false ∨ had = false ∧ n.attrs.length = 8 ∧ tx ≠ []) → R = .bad ⟨5, ne⟩ := fun h => by
              have := HB.out
              rw [if_pos h] at this
              exact this.symm
            have HBAD := Lib.hid hbad
            clear hbad
            cases ok with
            | false =>
              have hr : Hid (R = .bad ⟨5, ne⟩) := Lib.hid (HBAD.out (.inl rfl))
              go_wp2_with fail
              refine HCG.out.mono ?_
              rintro e w6 ⟨rfl, hb6⟩
              have hk6 : Kept (fun _ => False) w5 w6 := Kept.of_below hb6
              have x3 := hk6.cell id g3
              obtain ⟨d, h0, h1, f0, f1⟩ := HPUT.out w6 (HK2.out.trans (HF5.out.kept.trans hk6)) (.int .i64 5) (.int .i64 (ne : Int))
              have HD := Lib.hid d
              clear d hb6 hk6 g0 g1 g2 g3 g4 g5
              go_wp2_with fail
              go_region
              go_wp2_with fail
              obtain ⟨q0, q1, q2⟩ := HD.out
              revert q0 q1 q2
              generalize hwf : ((w6.setCell ⟨w.heap.size, 0, none⟩ (.int .i64 5)).setCell ⟨w.heap.size, 1, none⟩ (.int .i64 (ne : Int))) = wf
              intro q0 q1 q2
              have p0 : wf.drew.cell? ⟨w.heap.size, 0, none⟩ = some (.int .i64 5) := q0
              have p1 : wf.drew.cell? ⟨w.heap.size, 1, none⟩ = some (.int .i64 (ne : Int)) := q1
              refine bodyPost_ret (v := .tuple #[.string ⟨#[]⟩, .agg #[.int .i64 5, .int .i64 (ne : Int)]]) (by simp [results, Tryz.results6, go_sem, p0, p1]) rfl ?_
              have hfin := HEND.out _ q2.drew
              rw [hr.out, foldV_many] at hfin
              exact hfin
            | true =>
              by_cases hq : had = false ∧ n.attrs.length = 8 ∧ tx ≠ []
              · have hr : Hid (R = .bad ⟨5, ne⟩) := Lib.hid (HBAD.out (.inr hq))
                obtain ⟨rfl, h8, hte⟩ := hq
                have h8I : ((n.attrs.length : Int) == 8) = true := by simp; omega
                have htb : tx.isEmpty = false := by cases tx with
                  | nil => exact absurd rfl hte
                  | cons c t => rfl
                have htb2 : (tx == []) = false := by simpa using hte
                clear hte h8
                go_wp2_with fail
                refine HCG.out.mono ?_
                rintro e w6 ⟨rfl, hb6⟩
                have hk6 : Kept (fun _ => False) w5 w6 := Kept.of_below hb6
                have x2 := hk6.cell id g2
                have x3 := hk6.cell id g3
                obtain ⟨d, h0, h1, f0, f1⟩ := HPUT.out w6 (HK2.out.trans (HF5.out.kept.trans hk6)) (.int .i64 5) (.int .i64 (ne : Int))
                have HD := Lib.hid d
                clear d hb6 hk6 g0 g1 g2 g3 g4 g5
                go_wp2_with fail
                go_region
                go_wp2_with fail
                obtain ⟨q0, q1, q2⟩ := HD.out
                revert q0 q1 q2
                generalize hwf : ((w6.setCell ⟨w.heap.size, 0, none⟩ (.int .i64 5)).setCell ⟨w.heap.size, 1, none⟩ (.int .i64 (ne : Int))) = wf
                intro q0 q1 q2
                have p0 : wf.drew.cell? ⟨w.heap.size, 0, none⟩ = some (.int .i64 5) := q0
                have p1 : wf.drew.cell? ⟨w.heap.size, 1, none⟩ = some (.int .i64 (ne : Int)) := q1
                refine bodyPost_ret (v := .tuple #[.string ⟨#[]⟩, .agg #[.int .i64 5, .int .i64 (ne : Int)]]) (by simp [results, Tryz.results6, go_sem, p0, p1]) rfl ?_
                have hfin := HEND.out _ q2.drew
                rw [hr.out, foldV_many] at hfin
                exact hfin
              · have htl := HTL.out rfl
                have hnb : ¬ (true = false ∨ had = false ∧ n.attrs.length = 8 ∧ tx ≠ []) := by
                  rintro (h | h)
                  · cases h
                  · exact hq h
                obtain ⟨O, HO⟩ : ∃ O, Hid (fOwn n tx = O) := ⟨_, rfl⟩
                have HB2 : Hid (((ownsEd l gone (k + 1) (l.drop (k + 1))).then fun es => foldFin s ((E ++ O.toList) ++ es)) = R) := Lib.hid (by
                  have := HB.out
                  rw [if_neg hnb, HO.out] at this
                  exact this)
                have HM2 : Hid (∃ es0, E ++ O.toList = gone.map goneEd ++ es0 ∧ ∀ es', ownsEd l gone (k + 1) (l.drop (k + 1)) = .ok es' → ownsEd l gone 0 l = .ok (es0 ++ es')) := Lib.hid (by
                  obtain ⟨es0, h1, h2⟩ := HES.out
                  refine ⟨es0 ++ O.toList, by rw [h1, List.append_assoc], fun es' he => ?_⟩
                  have := owns_more (n := n) (by rw [HSOK.out, HSTX.out, HG.out]; exact hnb) he
                  rw [HSTX.out, HO.out] at this
                  rw [List.append_assoc]
                  exact h2 _ this)
                have HQ := Lib.hid hq
                clear hnb hq
                cases had with
                | true =>
                  go_wp2_with fail
                  refine HCG.out.mono ?_
                  rintro e w6 ⟨rfl, hb6⟩
                  have hk6 : Kept (fun _ => False) w5 w6 := Kept.of_below hb6
                  have HF6 := Lib.hid (HF5.out.still hk6)
                  have HCO := own_any l k n tx HX.out (by omega) (by omega) (by rw [HNE.out]; omega) (fun a ha => by have := HNL.out.attrs a ha; omega) w6 _ (nodes_firm.kept HL2.out HF6.out.kept)
                  rw [HO.out] at HCO
                  replace HCO := Lib.hid HCO
                  clear hb6 hk6 g0 g1 g2 g3 g4 g5
                  cases O with
                  | none =>
                    go_wp2_with fail
                    refine HCO.out.mono ?_
                    rintro e w7 ⟨rfl, hk7⟩
                    have HF7 : Hid (FRows w2 (w7.alloc (.cells #[.int .i64 0, .int .i64 0, .string ⟨#[]⟩] 51 (0, 0))) (.slice ga gone.length gc) (.slice ea' E.length ec') gone E) := Lib.hid (HF6.out.still (hk7.alloc _))
                    clear hk7
                    go_wp2_with fail
                    go_roundw
                    case measure => simp [intOf]; omega
                    case rel => exact ⟨k + 1, E, by omega, by go_num, by omega, HTX, HF7, Lib.hid (by have := HB2.out; simpa using this), Lib.hid (by have := HM2.out; simpa using this)⟩
                  | some x =>
                    have hxl := fOwn_len HO.out
                    go_wp2_with fail
                    refine HCO.out.mono ?_
                    rintro e w7 ⟨rfl, hk7⟩
                    unfold editV
                    obtain ⟨wq, HWQ⟩ : ∃ y, Hid (w7.alloc (.cells #[.int .i64 (x.lo : Int), .int .i64 (x.hi : Int), .string (str x.text)] 51 (0, 0)) = y) := ⟨_, rfl⟩
                    have k0 : wq.cell? ⟨w7.heap.size, 0, none⟩ = some (.int .i64 (x.lo : Int)) := by rw [← HWQ.out]; exact cellIn (newIn w7 _) 0 rfl
                    have k1 : wq.cell? ⟨w7.heap.size, 1, none⟩ = some (.int .i64 (x.hi : Int)) := by rw [← HWQ.out]; exact cellIn (newIn w7 _) 1 rfl
                    have k2 : wq.cell? ⟨w7.heap.size, 2, none⟩ = some (.string (str x.text)) := by rw [← HWQ.out]; exact cellIn (newIn w7 _) 2 rfl
                    have HF7 : Hid (FRows w2 wq (.slice ga gone.length gc) (.slice ea' E.length ec') gone E) := Lib.hid (HF6.out.still (by rw [← HWQ.out]; exact hk7.alloc _))
                    obtain ⟨a', c', w8, hr8, hf8⟩ := HF7.out.pushE x (by omega)
                    have HR8 := Lib.hid hr8
                    have HF8 : Hid (FRows w2 w8 (.slice ga gone.length gc) (.slice a' (E.length + 1) c') gone (E ++ [x])) := Lib.hid hf8
                    clear hk7 hr8 hf8
                    go_upto_region 21 with fail
                    rw [HWQ.out]
                    go_wp2_with (at_builtin; refine wpList_append_eq (by rfl) _ _ _ rfl _ _ _ rfl rfl _ HR8.out ?_)
                    go_roundw
                    case measure => simp [intOf]; omega
                    case rel => exact ⟨k + 1, E ++ [x], by omega, by go_num, by simp; omega, Lib.hid (by
                        intro e he
                        rcases List.mem_append.1 he with he | he
                        · exact HTX.out e he
                        · simp at he; subst he; omega), HF8, HB2, HM2⟩
                | false =>
                  by_cases h8 : n.attrs.length = 8
                  · obtain rfl : tx = [] := Classical.byContradiction fun hte => HQ.out ⟨rfl, h8, hte⟩
                    have h8I : ((n.attrs.length : Int) == 8) = true := by simp; omega
                    clear h8
                    go_wp2_with fail
                    refine HCG.out.mono ?_
                    rintro e w6 ⟨rfl, hb6⟩
                    have hk6 : Kept (fun _ => False) w5 w6 := Kept.of_below hb6
                    have x2 := hk6.cell id g2
                    have HF6 := Lib.hid (HF5.out.still hk6)
                    have HCO := own_any l k n [] HX.out (by omega) (by simp) (by rw [HNE.out]; omega) (fun a ha => by have := HNL.out.attrs a ha; omega) w6 _ (nodes_firm.kept HL2.out HF6.out.kept)
                    rw [HO.out] at HCO
                    replace HCO := Lib.hid HCO
                    clear hb6 hk6 g0 g1 g2 g3 g4 g5
                    cases O with
                    | none =>
                      go_wp2_with fail
                      refine HCO.out.mono ?_
                      rintro e w7 ⟨rfl, hk7⟩
                      have HF7 : Hid (FRows w2 (w7.alloc (.cells #[.int .i64 0, .int .i64 0, .string ⟨#[]⟩] 51 (0, 0))) (.slice ga gone.length gc) (.slice ea' E.length ec') gone E) := Lib.hid (HF6.out.still (hk7.alloc _))
                      clear hk7
                      go_wp2_with fail
                      go_roundw
                      case measure => simp [intOf]; omega
                      case rel => exact ⟨k + 1, E, by omega, by go_num, by omega, HTX, HF7, Lib.hid (by have := HB2.out; simpa using this), Lib.hid (by have := HM2.out; simpa using this)⟩
                    | some x =>
                      have hxl := fOwn_len HO.out
                      go_wp2_with fail
                      refine HCO.out.mono ?_
                      rintro e w7 ⟨rfl, hk7⟩
                      unfold editV
                      obtain ⟨wq, HWQ⟩ : ∃ y, Hid (w7.alloc (.cells #[.int .i64 (x.lo : Int), .int .i64 (x.hi : Int), .string (str x.text)] 51 (0, 0)) = y) := ⟨_, rfl⟩
                      have k0 : wq.cell? ⟨w7.heap.size, 0, none⟩ = some (.int .i64 (x.lo : Int)) := by rw [← HWQ.out]; exact cellIn (newIn w7 _) 0 rfl
                      have k1 : wq.cell? ⟨w7.heap.size, 1, none⟩ = some (.int .i64 (x.hi : Int)) := by rw [← HWQ.out]; exact cellIn (newIn w7 _) 1 rfl
                      have k2 : wq.cell? ⟨w7.heap.size, 2, none⟩ = some (.string (str x.text)) := by rw [← HWQ.out]; exact cellIn (newIn w7 _) 2 rfl
                      have HF7 : Hid (FRows w2 wq (.slice ga gone.length gc) (.slice ea' E.length ec') gone E) := Lib.hid (HF6.out.still (by rw [← HWQ.out]; exact hk7.alloc _))
                      obtain ⟨a', c', w8, hr8, hf8⟩ := HF7.out.pushE x (by omega)
                      have HR8 := Lib.hid hr8
                      have HF8 : Hid (FRows w2 w8 (.slice ga gone.length gc) (.slice a' (E.length + 1) c') gone (E ++ [x])) := Lib.hid hf8
                      clear hk7 hr8 hf8
                      go_upto_region 21 with fail
                      rw [HWQ.out]
                      go_wp2_with (at_builtin; refine wpList_append_eq (by rfl) _ _ _ rfl _ _ _ rfl rfl _ HR8.out ?_)
                      go_roundw
                      case measure => simp [intOf]; omega
                      case rel => exact ⟨k + 1, E ++ [x], by omega, by go_num, by simp; omega, Lib.hid (by
                          intro e he
                          rcases List.mem_append.1 he with he | he
                          · exact HTX.out e he
                          · simp at he; subst he; omega), HF8, HB2, HM2⟩
                  · have h8I : ((n.attrs.length : Int) == 8) = false := by simp; omega
                    clear h8
                    go_wp2_with fail
                    refine HCG.out.mono ?_
                    rintro e w6 ⟨rfl, hb6⟩
                    have hk6 : Kept (fun _ => False) w5 w6 := Kept.of_below hb6
                    have x2 := hk6.cell id g2
                    have HF6 := Lib.hid (HF5.out.still hk6)
                    have HCO := own_any l k n tx HX.out (by omega) (by omega) (by rw [HNE.out]; omega) (fun a ha => by have := HNL.out.attrs a ha; omega) w6 _ (nodes_firm.kept HL2.out HF6.out.kept)
                    rw [HO.out] at HCO
                    replace HCO := Lib.hid HCO
                    clear hb6 hk6 g0 g1 g2 g3 g4 g5
                    cases O with
                    | none =>
                      go_wp2_with fail
                      refine HCO.out.mono ?_
                      rintro e w7 ⟨rfl, hk7⟩
                      have HF7 : Hid (FRows w2 (w7.alloc (.cells #[.int .i64 0, .int .i64 0, .string ⟨#[]⟩] 51 (0, 0))) (.slice ga gone.length gc) (.slice ea' E.length ec') gone E) := Lib.hid (HF6.out.still (hk7.alloc _))
                      clear hk7
                      go_wp2_with fail
                      go_roundw
                      case measure => simp [intOf]; omega
                      case rel => exact ⟨k + 1, E, by omega, by go_num, by omega, HTX, HF7, Lib.hid (by have := HB2.out; simpa using this), Lib.hid (by have := HM2.out; simpa using this)⟩
                    | some x =>
                      have hxl := fOwn_len HO.out
                      go_wp2_with fail
                      refine HCO.out.mono ?_
                      rintro e w7 ⟨rfl, hk7⟩
                      unfold editV
                      obtain ⟨wq, HWQ⟩ : ∃ y, Hid (w7.alloc (.cells #[.int .i64 (x.lo : Int), .int .i64 (x.hi : Int), .string (str x.text)] 51 (0, 0)) = y) := ⟨_, rfl⟩
                      have k0 : wq.cell? ⟨w7.heap.size, 0, none⟩ = some (.int .i64 (x.lo : Int)) := by rw [← HWQ.out]; exact cellIn (newIn w7 _) 0 rfl
                      have k1 : wq.cell? ⟨w7.heap.size, 1, none⟩ = some (.int .i64 (x.hi : Int)) := by rw [← HWQ.out]; exact cellIn (newIn w7 _) 1 rfl
                      have k2 : wq.cell? ⟨w7.heap.size, 2, none⟩ = some (.string (str x.text)) := by rw [← HWQ.out]; exact cellIn (newIn w7 _) 2 rfl
                      have HF7 : Hid (FRows w2 wq (.slice ga gone.length gc) (.slice ea' E.length ec') gone E) := Lib.hid (HF6.out.still (by rw [← HWQ.out]; exact hk7.alloc _))
                      obtain ⟨a', c', w8, hr8, hf8⟩ := HF7.out.pushE x (by omega)
                      have HR8 := Lib.hid hr8
                      have HF8 : Hid (FRows w2 w8 (.slice ga gone.length gc) (.slice a' (E.length + 1) c') gone (E ++ [x])) := Lib.hid hf8
                      clear hk7 hr8 hf8
                      go_upto_region 21 with fail
                      rw [HWQ.out]
                      go_wp2_with (at_builtin; refine wpList_append_eq (by rfl) _ _ _ rfl _ _ _ rfl rfl _ HR8.out ?_)
                      go_roundw
                      case measure => simp [intOf]; omega
                      case rel => exact ⟨k + 1, E ++ [x], by omega, by go_num, by simp; omega, Lib.hid (by
                          intro e he
                          rcases List.mem_append.1 he with he | he
                          · exact HTX.out e he
                          · simp at he; subst he; omega), HF8, HB2, HM2⟩
          · obtain rfl : k = l.length := by omega
            obtain ⟨es0, hE0, hE1⟩ := HE2.out
            rw [List.drop_length] at hE1
            have hown : ownsEd l (goneR rules st) 0 l = .ok es0 := by
              have := hE1 [] rfl
              rw [HG.out]; simpa using this
            have hall : allEd rules st es0 = E := by unfold allEd; rw [HG.out, hE0]
            obtain ⟨hrise, hedok⟩ := edits_as HT.out hslen hown
            rw [hall] at hrise hedok
            have hfin : foldFin s E = R := by
              have := HE.out
              rw [List.drop_length] at this
              simpa [ownsEd] using this
            obtain ⟨zs, HZ⟩ : ∃ zs, Hid (sortEd E = zs) := ⟨_, rfl⟩
            have hperm := sortEd_perm E
            rw [HZ.out] at hedok hperm
            have hlow : ∀ e ∈ E, e.lo ≤ 1048576 := fun e he => by
              have := (edOk_lo hedok e (hperm.mem_iff.2 he)).1; omega
            obtain ⟨D, hD⟩ : ∃ D : List SEd, D.map (·.e) = E := by
              refine ⟨E.pmap (fun e h => (⟨e, h⟩ : SEd)) hlow, ?_⟩
              rw [List.map_pmap]
              simp
            have hDl : D.length = E.length := by rw [← hD]; simp
            have hDc : D.map seCells = E.map edCells := by rw [← hD, List.map_map]; rfl
            have hdown : wr1.ownsRow w2.heap.size 51 3 (.slice ea' E.length ec') D.length (D.map seCells).flatten := by
              rw [hDl, hDc]; exact HF.out.eds
            have HCSORT := Lib.hid (sortEdit_at rfl hdown (by omega))
            obtain ⟨t, HTT⟩ : ∃ t, Hid (editsF s 0 zs = t) := ⟨_, rfl⟩
            have htl : t.length ≤ 1000000 := by
              rw [← HTT.out]
              have h1 := editsF_len hedok (M := 2000) (fun e he => HTX.out e (hperm.mem_iff.1 he))
              have h2 := hperm.length_eq
              omega
            have HED := Lib.hid hedok
            have HRISE := Lib.hid hrise
            have HDD := Lib.hid hD
            have HR5 : Hid ((if 6000 < t.length then .bad ⟨4, 0⟩ else .ok t) = R) := Lib.hid (by
              rw [← hfin]; unfold foldFin; rw [HZ.out, HTT.out])
            have HWR := Lib.hid HF.out.kept
            have HEB : Hid (∀ b, (Value.slice ea' E.length ec').ownBlock = some b → w2.heap.size ≤ b) := Lib.hid (fun b hb => (World.ownsRow.lt HF.out.eds b hb).1)
            have hzl : zs.length = E.length := hperm.length_eq
            have HTXZ : Hid (∀ e ∈ zs, e.text.length ≤ 2000) := Lib.hid (fun e he => HTX.out e (hperm.mem_iff.1 he))
            clear hE0 hE1 hown hall hrise hedok hfin hperm hlow hD hDc hdown
            go_wp2_with fail
            refine HCSORT.out.mono ?_
            rintro e w3 ⟨rfl, D', hp', hs', hrows, hk3⟩
            have hz : D'.map (·.e) = zs := by
              rw [← HZ.out]
              refine sorted_is HRISE.out ?_ ?_
              · rw [← HDD.out]; exact hp'.map _
              · rw [List.pairwise_map]; exact hs'
            have hrz : D'.map seCells = zs.map edCells := by rw [← hz, List.map_map]; rfl
            rw [hrz] at hrows
            have hkw3 : Kept (fun _ => False) w2 w3 := HWR.out.trans' hk3 (fun b hb hS => by have := HEB.out b hS; omega)
            have HK3 := Lib.hid hkw3
            obtain ⟨w4, HW4⟩ : ∃ x, Hid (w3.alloc (.cells #[.pointer none, .slice none 0 0] 63 (0, 0)) = x) := ⟨_, rfl⟩
            have hB0 : Lib.IsBuilderF 63 5 w3.heap.size w3.heap.size (Lib.byteCells []) w4 := by
              rw [← HW4.out]; exact Lib.IsBuilderF.of (Lib.fresh_isBuilder _ _ w3)
            have hk34 : Kept (fun _ => False) w3 w4 := by rw [← HW4.out]; exact (Kept.refl _ w3).alloc _
            have h4s : w4.heap.size = w3.heap.size + 1 := by rw [← HW4.out]; simp
            have HZR : Hid (RowsAt w3 3 (.slice ea' E.length ec') (zs.map edCells)) := Lib.hid hrows
            obtain ⟨bb, HBB⟩ : ∃ b, Hid (w3.heap.size = b) := ⟨_, rfl⟩
            have HB0 := Lib.hid hB0
            have HBL0 : Hid (Below w3.heap.size w3 w4) := Lib.hid hk34.below
            have HINIT : Hid ([] ++ editsF s 0 (zs.drop 0) = t ∧ EdOk s 0 (zs.drop 0)) := Lib.hid ⟨by simpa using HTT.out, by simpa using HED.out⟩
            have h8I : ((s.length : Nat) : Int) ≤ 6000 := by omega
            clear hp' hs' hk3 hz hrz hrows hkw3 hB0 hk34
            go_upto_region 26 with fail
            rw [HW4.out]
            go_wp2_with fail
            go_loopw [19, 122] (fun a c wr => ∃ (i at' : Nat) (out : B), a = .int .i64 (at' : Int) ∧ c = .int .i64 (i : Int) ∧ i ≤ zs.length ∧ Hid (Lib.IsBuilderF 63 5 w3.heap.size w3.heap.size (Lib.byteCells out) wr) ∧ Hid (Below w3.heap.size w3 wr) ∧ w3.heap.size < wr.heap.size ∧ Hid (out ++ editsF s at' (zs.drop i) = t ∧ EdOk s at' (zs.drop i))) (fun _ c _ => zs.length - (intOf c).toNat)
            case atStart => exact ⟨0, 0, [], rfl, rfl, by omega, HB0, HBL0, by omega, HINIT⟩
            case round =>
              obtain ⟨i, at', out, rfl, rfl, hi, HBI, HBE, hbs3, HO⟩ := hrel
              obtain ⟨wr2, hwr2⟩ : ∃ x, x = wr := ⟨_, rfl⟩
              subst hwr2
              by_cases hltz : i < zs.length
              · have hx := List.getElem?_eq_getElem hltz
                have hdr := List.drop_eq_getElem_cons hltz
                generalize hgx : zs[i] = x at hx hdr
                clear hgx
                obtain ⟨ho1, ho2⟩ := HO.out
                rw [hdr] at ho1 ho2
                simp only [editsF] at ho1
                obtain ⟨e1, e2, e3, e4⟩ := ho2
                obtain ⟨eb, eo, rfl, hcs⟩ := RowsAt.at (HZR.out.below HBE.out) (k := i) (r := edCells x) (by simp [hx])
                have c0 : wr2.cell? ⟨eb, eo + i * 3, none⟩ = some (.int .i64 (x.lo : Int)) := hcs 0 _ rfl
                have c1 : wr2.cell? ⟨eb, eo + i * 3 + 1, none⟩ = some (.int .i64 (x.hi : Int)) := hcs 1 _ rfl
                have c2 : wr2.cell? ⟨eb, eo + i * 3 + 2, none⟩ = some (.string (str x.text)) := hcs 2 _ rfl
                obtain ⟨wq, HWQ⟩ : ∃ y, Hid (wr2.alloc (.cells #[.int .i64 (x.lo : Int), .int .i64 (x.hi : Int), .string (str x.text)] 51 (0, 0)) = y) := ⟨_, rfl⟩
                have hq0 : wq.heap[wr2.heap.size]? = some (.cells #[.int .i64 (x.lo : Int), .int .i64 (x.hi : Int), .string (str x.text)] 51 (0, 0)) := by rw [← HWQ.out]; exact newIn wr2 _
                have k0 : wq.cell? ⟨wr2.heap.size, 0, none⟩ = some (.int .i64 (x.lo : Int)) := cellIn hq0 0 rfl
                have k1 : wq.cell? ⟨wr2.heap.size, 1, none⟩ = some (.int .i64 (x.hi : Int)) := cellIn hq0 1 rfl
                have k2 : wq.cell? ⟨wr2.heap.size, 2, none⟩ = some (.string (str x.text)) := cellIn hq0 2 rfl
                have HQ0 := Lib.hid hq0
                have hbq : Lib.IsBuilderF 63 5 w3.heap.size w3.heap.size (Lib.byteCells out) wq := by rw [← HWQ.out]; exact Lib.IsBuilderF.alloc HBI.out _
                have hbeq : Below w3.heap.size w3 wq := by rw [← HWQ.out]; exact HBE.out.alloc HBE.out.size _
                have hzq : wq.heap.size = wr2.heap.size + 1 := by rw [← HWQ.out]; simp
                have htxl := HTXZ.out x (List.mem_of_getElem? hx)
                have hout : out.length ≤ 1000000 := by
                  have := congrArg List.length ho1
                  simp at this
                  omega
                have hsubl := sub_len s e1 (show x.lo ≤ s.length by omega)
                have HNX : Hid ((out ++ (sub s at' x.lo ++ x.text)) ++ editsF s x.hi (zs.drop (i + 1)) = t ∧ EdOk s x.hi (zs.drop (i + 1))) := Lib.hid ⟨by rw [← ho1]; simp, e4⟩
                have HBQ := Lib.hid hbq
                have HBEQ := Lib.hid hbeq
                have HCW := Lib.hid (write_any w3.heap.size w3.heap.size (Lib.byteCells out) (str (sub s at' x.lo ++ x.text)) wq.drew hbq (by rw [Lib.byteCells_length, str_size, List.length_append, hsubl]; omega) (by have := hbeq.size; exact this))
                have hlen1 : (at' : Int) ≤ x.lo := by omega
                have hlen2 : (x.lo : Int) ≤ s.length := by omega
                have hcat : (9223372036854775807 < min (x.lo - at') (s.length - at') + x.text.length) = False := by simp; omega
                unfold sub at HCW
                go_upto_region 30 with fail
                rw [HWQ.out]
                clear c0 c1 c2 hcs hq0 hbq hbeq hx hdr ho1 e4
                have HBOX : Hid (∀ wx, Lib.OthersKept 5 (some w3.heap.size) wq.drew wx → wx.heap[wr2.heap.size]? = some (.cells #[.int .i64 (x.lo : Int), .int .i64 (x.hi : Int), .string (str x.text)] 51 (0, 0))) := Lib.hid (fun wx h =>
                  h wr2.heap.size _ HQ0.out (by simp; omega) (fun c fz e => by cases e))
                go_region_held3 (fun w' => w'.cell? ⟨wr2.heap.size, 0, none⟩ = some (.int .i64 (x.lo : Int)) ∧ w'.cell? ⟨wr2.heap.size, 2, none⟩ = some (.string (str x.text))) (first | go_keep | exact ⟨cellIn (HBOX.out _ hok6) 0 rfl, cellIn (HBOX.out _ hok6) 2 rfl⟩)
                  ((go_at_call 17; refine HCW.out.mono ?_; rintro e w6 ⟨rfl, hb6, hbl6, hok6⟩))
                have hx6 := HBOX.out w6 hok6
                have z1 : w6.cell? ⟨wr2.heap.size, 1, none⟩ = some (.int .i64 (x.hi : Int)) := cellIn hx6 1 rfl
                have HBI6 : Hid (Lib.IsBuilderF 63 5 w3.heap.size w3.heap.size (Lib.byteCells (out ++ (sub s at' x.lo ++ x.text))) w6) := Lib.hid (by
                  rw [Lib.byteCells_append]
                  exact .inr hb6)
                have HBE6 : Hid (Below w3.heap.size w3 w6) := Lib.hid ((HBEQ.out.drew).trans hbl6)
                have hs6' : w3.heap.size < w6.heap.size := by
                  have h1 := hbl6.size
                  have h2 : wq.drew.heap.size = wq.heap.size := rfl
                  omega
                clear hb6 hbl6 hok6 hx6 k0 k1 k2
                go_wp2_with fail
                go_roundw
                case measure => simp [intOf]; omega
                case rel => exact ⟨i + 1, x.hi, _, rfl, by go_num, by omega, HBI6, HBE6, hs6', HNX⟩
              · obtain rfl : i = zs.length := by omega
                obtain ⟨ho1, ho2⟩ := HO.out
                rw [List.drop_length] at ho1 ho2
                have ho1 : out ++ s.drop at' = t := ho1
                have ho2 : at' ≤ s.length := ho2
                have hout : out.length ≤ 1000000 := by
                  have := congrArg List.length ho1
                  simp at this
                  omega
                have HOT := Lib.hid ho1
                have HCW := Lib.hid (write_any w3.heap.size w3.heap.size (Lib.byteCells out) (str (s.drop at')) wr2 HBI.out (by rw [Lib.byteCells_length, str_size, List.length_drop]; omega) (by omega))
                have ha1 : (at' : Int) ≤ s.length := by omega
                clear ho1
                go_wp2_with fail
                refine HCW.out.mono ?_
                rintro e w6 ⟨rfl, hb6, hbl6, hok6⟩
                have hbt : Lib.IsBuilderF 63 5 w3.heap.size w3.heap.size (Lib.byteCells t) w6 := by
                  rw [← HOT.out, Lib.byteCells_append]
                  exact .inr hb6
                have hbe6 : Below w3.heap.size w3 w6 := HBE.out.trans hbl6
                have HBE6 := Lib.hid hbe6
                have HBT := Lib.hid hbt
                have HLEN : Hid (Calls Tryz.prog 18 #[.pointer (some ⟨w3.heap.size, 0, none⟩)] w6 fun e w' => e = .returned (.int .i64 (t.length : Int)) ∧ w' = w6) := Lib.hid (by
                  have := Tryz.Builder_Len_f w3.heap.size w3.heap.size (Lib.byteCells t) w6 hbt
                  rw [Lib.byteCells_length] at this
                  exact this)
                have HSTR : Hid (Calls Tryz.prog 19 #[.pointer (some ⟨w3.heap.size, 0, none⟩)] w6 fun e w' => e = .returned (.string (str t)) ∧ Below w3.heap.size w6 w') := Lib.hid ((Tryz.Builder_String_any_f w3.heap.size w3.heap.size t w6 hbt hbe6.size).mono fun e w' h => ⟨h.1, h.2.2⟩)
                have HKW6 := Lib.hid (HK2.out.trans (HK3.out.trans (Kept.of_below (S := fun _ => False) hbe6)))
                clear hb6 hbl6 hok6 hbt hbe6
                by_cases h60 : 6000 < t.length
                · have hr : Hid (R = .bad ⟨4, 0⟩) := Lib.hid (by rw [← HR5.out, if_pos h60])
                  have h6I : (6000 : Int) < t.length := by omega
                  obtain ⟨d, h0, h1, f0, f1⟩ := HPUT.out w6 HKW6.out (.int .i64 4) (.int .i64 0)
                  have HD := Lib.hid d
                  clear d
                  go_wp2_with (go_at_call 18; refine HLEN.out.mono ?_; rintro e w9 ⟨rfl, rfl⟩)
                  obtain ⟨q0, q1, q2⟩ := HD.out
                  revert q0 q1 q2
                  generalize hwf : ((w9.setCell ⟨w.heap.size, 0, none⟩ (.int .i64 4)).setCell ⟨w.heap.size, 1, none⟩ (.int .i64 0)) = wf
                  intro q0 q1 q2
                  refine bodyPost_ret (v := .tuple #[.string ⟨#[]⟩, .agg #[.int .i64 4, .int .i64 0]]) (by simp [results, Tryz.results6, go_sem, q0, q1]) rfl ?_
                  have hfin := HEND.out _ q2
                  rw [hr.out, foldV_much] at hfin
                  exact hfin
                · have hr : Hid (R = .ok t) := Lib.hid (by rw [← HR5.out, if_neg h60])
                  have h6I : (t.length : Int) ≤ 6000 := by omega
                  go_wp2_with (go_at_call 18; refine HLEN.out.mono ?_; rintro e w9 ⟨rfl, rfl⟩)
                  refine HSTR.out.mono ?_
                  rintro e w7 ⟨rfl, hb7⟩
                  have hk67 : Kept (fun _ => False) w2 w7 := HK3.out.trans (Kept.of_below (HBE6.out.trans hb7))
                  obtain ⟨d, h0, h1, f0, f1⟩ := HPUT.out w7 (HK2.out.trans hk67) (.int .i64 0) (.int .i64 0)
                  have HD := Lib.hid d
                  clear d hb7 hk67
                  go_wp2_with fail
                  obtain ⟨q0, q1, q2⟩ := HD.out
                  revert q0 q1 q2
                  generalize hwf : ((w7.setCell ⟨w.heap.size, 0, none⟩ (.int .i64 0)).setCell ⟨w.heap.size, 1, none⟩ (.int .i64 0)) = wf
                  intro q0 q1 q2
                  refine bodyPost_ret (v := .tuple #[.string (str t), .agg #[.int .i64 0, .int .i64 0]]) (by simp [results, Tryz.results6, go_sem, q0, q1]) rfl ?_
                  have hfin := HEND.out _ q2
                  rw [hr.out, foldV_ok] at hfin
                  exact hfin
end Go.Proofs.YtplbdlgmjehckadGreatDoor

namespace Go.Proofs.YtplbdlgmjehckadGreatDoor
open Go.RowKit
set_option linter.unusedVariables false
set_option linter.unusedSimpArgs false
theorem fold_is (s : B) (m : Int) (w : World) (hm : w.cell? ⟨0, 0, none⟩ = some (.int .i64 m)) (hs : s.length ≤ 9223372036854775807) {l : List PNode} {rules : List PRule} {t : B} (h : fRead s = .ok (l, rules)) (hf : ∀ st, IsStays l rules st → fFold s l rules st = .ok t) :
    Calls Tryz.prog 6 #[.string (str s)] w fun e w' => e = .returned (.tuple #[.string (str t), .agg #[.int .i64 0, .int .i64 0]]) ∧ Kept (fun _ => False) w w' :=
  (fold_any s m w hm hs).mono fun e w' he => by
    obtain ⟨hk, hx⟩ := he
    rw [h] at hx
    obtain ⟨st, hst, hx⟩ := hx
    rw [hf st hst, foldV_ok] at hx
    exact ⟨hx, hk⟩
end Go.Proofs.YtplbdlgmjehckadGreatDoor

namespace Go.Proofs.YtplbdlgmjehckadGreatDoor
open Go.RowKit
set_option linter.unusedVariables false
set_option linter.unusedSimpArgs false
theorem kept_bytes (w : World) (e : TypeId) (s : ByteArray) : Kept (fun _ => False) w (Lib.bytesWorld w e s) :=
  ⟨rfl, rfl, rfl, by rw [Lib.bytesWorld_size]; omega, fun k hk _ => Lib.bytesWorld_at_old w e s k hk⟩
theorem bytes_of (x : B) (w : World) : ∃ (wb : World) (cp : Nat), (convert 9 39 (.string (str x))).run Tryz.prog w = .ok (.slice (some ⟨w.heap.size, 0, none⟩) x.length cp) wb ∧ Kept (fun _ => False) w wb ∧
    ∀ j (hj : j < x.length), wb.cell? ⟨w.heap.size, j, none⟩ = some (.int .u8 ((x[j]).toNat : Int)) :=
  ⟨_, _, Lib.run_convert_string_bytes w 9 39 5 (str x) (u := .string) Tryz.underlying9 Tryz.underlying39 Tryz.underlying5, kept_bytes w _ _, fun j hj => by
    rw [Lib.bytesWorld_cell w _ (str x) j hj]
    simp [List.getD, List.getElem?_eq_getElem hj]⟩
end Go.Proofs.YtplbdlgmjehckadGreatDoor

namespace Go.Proofs.YtplbdlgmjehckadGreatDoor
open Go.RowKit
set_option linter.unusedVariables false
set_option linter.unusedSimpArgs false
set_option maxRecDepth 100000 in
set_option maxHeartbeats 1600000 in
theorem aliveT_any (w : World) (m : Int) (hm : w.cell? ⟨0, 0, none⟩ = some (.int .i64 m)) : Calls Tryz.prog 4 #[] w fun e w' => e = .returned (.bool true) ∧ Kept (fun _ => False) w w' := by
  have HC := Lib.hid (fold_is aliveTIn m w hm (by decide) aliveT_read (fun st S => aliveT S))
  clear hm
  go_enter Tryz.func4, Tryz.ntmps4
  go_wp2_with fail
  refine HC.out.mono ?_
  rintro e w1 ⟨rfl, hk1⟩
  have HK := Lib.hid (hk1.alloc (.cells #[.int .i64 0, .int .i64 0] 26 (0, 0)))
  clear hk1
  unfold aliveTOut
  go_wp2_with fail
  go_ret
  exact ⟨rfl, HK.out⟩
theorem tlow_num (c : UInt8) : isLow c = (decide (97 ≤ (c.toNat : Int)) && decide ((c.toNat : Int) ≤ 122)) := by
  unfold isLow; rw [Bool.eq_iff_iff]; simp; omega
set_option maxHeartbeats 400000 in
theorem tlow_is (c : UInt8) (x : Bool) (w : World) (hx : isLow c = x) : Calls Tryz.prog 10 #[.int .u8 (c.toNat : Int)] w fun e w' => e = .returned (.bool x) ∧ w' = w := by
  rw [tlow_num] at hx
  have HX := Lib.hid hx
  clear hx
  go_enter Tryz.func10, Tryz.ntmps10
  by_cases h1 : 97 ≤ (c.toNat : Int)
  · by_cases h2 : (c.toNat : Int) ≤ 122
    · go_wp2
      go_ret
      exact ⟨retb (by rw [← HX.out]; simp [h1, h2]), rfl⟩
    · go_wp2
      go_ret
      exact ⟨retb (by rw [← HX.out]; simp [h1, h2]), rfl⟩
  · go_wp2
    go_ret
    exact ⟨retb (by rw [← HX.out]; simp; omega), rfl⟩
def isTw (c : UInt8) : Bool := isLow c || (decide (48 ≤ c.toNat) && decide (c.toNat ≤ 57))
theorem tw_word {c : UInt8} (h : isTw c = true) : isWord c = true := by
  unfold isTw at h
  unfold isWord
  rcases (Bool.or_eq_true _ _).mp h with h | h
  · rw [h]; rfl
  · rw [h]; simp
theorem topW_of {a : B} (h : ∀ c ∈ a, isTw c = true) (hn : a ≠ []) (hl : a.length ≤ 20) : TopW a := ⟨⟨hn, fun c hc => tw_word (h c hc)⟩, hl⟩
set_option maxRecDepth 100000 in
set_option maxHeartbeats 1600000 in
theorem topword_any (a : B) (w : World) (ha : a.length ≤ 9223372036854775807) : Calls Tryz.prog 5 #[.string (str a)] w fun e w' => ∃ b : Bool, e = .returned (.bool b) ∧ (b = true → TopW a) ∧ Kept (fun _ => False) w w' := by
  obtain ⟨wb, cp, hcv, kb, hbc⟩ := bytes_of a w
  have HBC := Lib.hid hbc
  have HKB := Lib.hid kb
  clear hbc kb
  go_enter Tryz.func5, Tryz.ntmps5
  go_wp2_with fail
  go_loopw [8] (fun c wr => ∃ i : Nat, i ≤ a.length ∧ c = .int .i64 (i : Int) ∧ wr = wb ∧ Hid (∀ j (hj : j < a.length), j < i → isTw a[j] = true)) (fun c _ => a.length - (intOf c).toNat)
  case atStart => exact ⟨0, by omega, rfl, rfl, Lib.hid (fun j hj h => by omega)⟩
  case round =>
    obtain ⟨i, hi, rfl, rfl, HA⟩ := hrel
    by_cases hlt : i < a.length
    · have c0 := HBC.out i hlt
      obtain ⟨x, hx⟩ : ∃ x, a[i] = x := ⟨_, rfl⟩
      rw [hx] at c0
      have HX := Lib.hid hx
      have hnx : isTw x = true → ∀ j (hj : j < a.length), j < i + 1 → isTw a[j] = true := fun h j hj hj1 => by
        by_cases hji : j = i
        · subst hji; rw [hx]; exact h
        · exact HA.out j hj (by omega)
      have HNX := Lib.hid hnx
      clear hx hnx
      cases hlow : isLow x with
      | true =>
        have HLW := Lib.hid (tlow_is x true wr hlow)
        have HT : Hid (isTw x = true) := Lib.hid (by unfold isTw; rw [hlow]; rfl)
        go_wp2_with (go_at_call 10; refine HLW.out.mono ?_; rintro e w2 ⟨rfl, rfl⟩)
        go_roundw
        case measure => simp [intOf]; omega
        case rel => exact ⟨i + 1, by omega, by go_num, (by first | rfl | trivial), Lib.hid (HNX.out HT.out)⟩
      | false =>
        have HLW := Lib.hid (tlow_is x false wr hlow)
        by_cases h1 : (x.toNat : Int) < 48
        · go_wp2_with (go_at_call 10; refine HLW.out.mono ?_; rintro e w2 ⟨rfl, rfl⟩)
          go_ret
          exact ⟨false, rfl, (fun h => by cases h), HKB.out⟩
        · by_cases h2 : (57 : Int) < x.toNat
          · go_wp2_with (go_at_call 10; refine HLW.out.mono ?_; rintro e w2 ⟨rfl, rfl⟩)
            go_ret
            exact ⟨false, rfl, (fun h => by cases h), HKB.out⟩
          · have HT : Hid (isTw x = true) := Lib.hid (by unfold isTw; simp; right; omega)
            go_wp2_with (go_at_call 10; refine HLW.out.mono ?_; rintro e w2 ⟨rfl, rfl⟩)
            go_roundw
            case measure => simp [intOf]; omega
            case rel => exact ⟨i + 1, by omega, by go_num, (by first | rfl | trivial), Lib.hid (HNX.out HT.out)⟩
    · obtain rfl : i = a.length := by omega
      have hall : ∀ c ∈ a, isTw c = true := fun c hc => by
        obtain ⟨j, hj, rfl⟩ := List.getElem_of_mem hc
        exact HA.out j hj hj
      have HALL := Lib.hid hall
      clear hall
      cases hem : a.isEmpty with
      | true =>
        go_wp2_with fail
        go_ret
        exact ⟨false, rfl, (fun h => by cases h), HKB.out⟩
      | false =>
        have hne : a ≠ [] := fun h => by rw [h] at hem; cases hem
        have HNE := Lib.hid hne
        clear hne
        by_cases h20 : (a.length : Int) ≤ 20
        · go_wp2_with fail
          go_ret
          exact ⟨true, rfl, fun _ => topW_of HALL.out HNE.out (by omega), HKB.out⟩
        · have h21 : 20 < (a.length : Int) := by omega
          have h22 : 20 < a.length := by omega
          have h23 : ((a.length : Int) ≤ 20) = False := by simp; omega
          have h24 : (a.length ≤ 20) = False := by simp; omega
          clear h20
          go_wp2_with fail
          go_ret
          exact ⟨false, rfl, (fun h => by cases h), HKB.out⟩
set_option maxRecDepth 100000 in
set_option maxHeartbeats 1600000 in
theorem styleT_any (t : B) (l : List PNode) (k : Nat) (n : PNode) (hp : pParse t = .ok l) (hn : l[k]? = some n) (m : Int) (w : World) (hm : w.cell? ⟨0, 0, none⟩ = some (.int .i64 m)) (ht : t.length ≤ 9223372036854775807) :
    Calls Tryz.prog 8 #[.string (str t), .int .i64 (k : Int)] w fun e w' => e = .returned (.tuple #[.string (str (pGet n.attrs styleName).1), .bool true]) ∧ Kept (fun _ => False) w w' := by
  have HCP := parse_any t w m hm ht
  rw [hp] at HCP
  replace HCP := Lib.hid HCP
  have hl := (page_lim hp).2.1
  have hkl : k < l.length := (List.getElem?_eq_some_iff.1 hn).1
  have HN := Lib.hid hn
  clear hm hn hp
  go_enter Tryz.func8, Tryz.ntmps8
  go_wp2_with fail
  refine HCP.out.mono ?_
  rintro e w1 ⟨lv, rfl, hb1, hl1⟩
  obtain ⟨la, lc, rfl, hlc1, hlc2⟩ := hl1.form
  unfold maxLen at hlc2
  obtain ⟨wb, HWB⟩ : ∃ x, Hid (w1.alloc (.cells #[.int .i64 0, .int .i64 0] 26 (0, 0)) = x) := ⟨_, rfl⟩
  have hk1 : Kept (fun _ => False) w1 wb := by rw [← HWB.out]; exact (Kept.refl _ w1).alloc _
  have HKB := Lib.hid ((Kept.of_below (S := fun _ => False) hb1).trans hk1)
  have c0 : wb.cell? ⟨w1.heap.size, 0, none⟩ = some (.int .i64 0) := by rw [← HWB.out]; exact cellIn (newIn w1 _) 0 rfl
  obtain ⟨nb, noff, av, rfl, g0, g1, g2, g3, g4, g5, hav⟩ := (nodes_firm.kept hl1 hk1).at HN.out
  obtain ⟨aa, acap, rfl, hac1, hac2⟩ := hav.form
  unfold maxLen at hac2
  have HCG := Lib.hid (get_any wb _ n styleName hav)
  clear hb1 hl1 hk1 hav
  go_upto_region 2 with fail
  rw [HWB.out]
  go_wp2_with fail
  refine HCG.out.mono ?_
  rintro e w2 ⟨rfl, hb2⟩
  have HK2 := Lib.hid (HKB.out.trans (Kept.of_below hb2))
  clear hb2 g0 g1 g2 g3 g4 g5
  go_wp2_with fail
  refine bodyPost_ret (v := .tuple #[.string (str (pGet n.attrs styleName).1), .bool true]) (by simp [results, Tryz.results8, go_sem]) rfl ?_
  exact ⟨rfl, HK2.out⟩
end Go.Proofs.YtplbdlgmjehckadGreatDoor

namespace Go.Proofs.YtplbdlgmjehckadGreatDoor
open Go.RowKit
set_option linter.unusedVariables false
set_option linter.unusedSimpArgs false
theorem fold_law (s : B) (m : Int) (w : World) (hm : w.cell? ⟨0, 0, none⟩ = some (.int .i64 m)) (hs : s.length ≤ 9223372036854775807) {l : List PNode} {rules : List PRule} {Q : B → Prop} (h : fRead s = .ok (l, rules)) (hf : ∀ st, IsStays l rules st → ∃ t, fFold s l rules st = .ok t ∧ Q t) :
    Calls Tryz.prog 6 #[.string (str s)] w fun e w' => ∃ t, e = .returned (.tuple #[.string (str t), .agg #[.int .i64 0, .int .i64 0]]) ∧ Q t ∧ Kept (fun _ => False) w w' :=
  (fold_any s m w hm hs).mono fun e w' he => by
    obtain ⟨hk, hx⟩ := he
    rw [h] at hx
    obtain ⟨st, hst, hx⟩ := hx
    obtain ⟨t, ht, hq⟩ := hf st hst
    rw [ht, foldV_ok] at hx
    exact ⟨t, hx, hq, hk⟩
def Second (v t : B) : Prop := t.length ≤ 6000 ∧ ∃ m n1, pParse t = .ok m ∧ m[1]? = some n1 ∧ (pGet n1.attrs styleName).1 = v
theorem parse_short {t : B} {m : List PNode} (h : pParse t = .ok m) : t.length ≤ 6000 := (page_lim h).1
end Go.Proofs.YtplbdlgmjehckadGreatDoor

namespace Go.Proofs.YtplbdlgmjehckadGreatDoor
open Go.RowKit Go.ChangeShapes Go.WideShapes Go.ChangeAt Go.ChangeMaps
theorem own : ownKnob Tryz.prog.godebug = none := by kernel_rfl
theorem laidOut : laidOutB Tryz.prog = true := by kernel_rfl
theorem maxLen_room (W : World) (hsh : W.ShapedOpen Tryz.prog) : ∃ m, W.cell? ⟨0, 0, none⟩ = some (.int .i64 m) :=
  cell_of_shapedOpen_int (zero := #[.int .i64 0]) (t := 3) hsh (of_decide_eq_true (by kernel_rfl)) (by kernel_rfl) rfl (by kernel_rfl) (by kernel_rfl) Tryz.underlying3
def u8Cell (n : Nat) : Value := .int .u8 (n : Int)
def acceptCells : Array Value := (List.map u8Cell [128, 191, 160, 191, 128, 159, 144, 191, 128, 143, 0, 0, 0, 0, 0, 0, 0, 0, 0, 0, 0, 0, 0, 0, 0, 0, 0, 0, 0, 0, 0, 0]).toArray
def firstCells : Array Value := (List.map u8Cell Go.Pinned.utf8FirstZ).toArray
def laidIn (cs : Array Value) : Obj → Obj
  | .cells _ t frozen => .cells cs t frozen
  | o => o
noncomputable def laidWorld (os : Os) : World :=
  { World.holding Tryz.prog os ⟨#[], #[], []⟩ with heap := ((World.holding Tryz.prog os ⟨#[], #[], []⟩).heap.modify 1 (laidIn firstCells)).modify 2 (laidIn acceptCells) }
end Go.Proofs.YtplbdlgmjehckadGreatDoor

