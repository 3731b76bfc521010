/-
  The document's answer: an element, given how items are read.
-/
import Derived.Test.YtplbdlgmjehckaaRfGen
import Derived.Test.YtplbdlgmjehckaaPgItems
import Derived.Deep.DeepCutAuto
import Derived.Deep.CutBlock
import Derived.Deep.Light
namespace Go.Proofs.Ytplbdlgmjehckaa
open Go.RowKit
set_option linter.unusedVariables false
set_option linter.unusedSimpArgs false

def RItemsEnds (w : World) (base b : Nat) (s : B) (v : Value) (r : Ans (List PNode × B × Nat)) (e : Ending) (w' : World) : Prop :=
  match r with
  | .bad f => e = .returned (.tuple #[]) ∧ Kept (RdrS b v) w w' ∧ ∃ at' v', WkAt w' b s at' f v'
  | .ok (ns', l', at') => ∃ v', e = .returned (.tuple #[]) ∧ Kept (RdrS b v) w w' ∧ Wk w' base b s at' v' ns' ∧ l' = s.drop at' ∧ ∀ k, v'.ownBlock = some k → v.ownBlock = some k ∨ w.heap.size ≤ k

/-- what holds at the head of the loop over an element's attributes, alive -/
structure RLoop (w2 wr : World) (b nb : Nat) (s : B) (v : Value) (nm : B) (parent : Int) (at2 : Nat) (R : Ans (List PAttr × B × Nat)) (al : List PAttr) (at' : Nat) (av : Value) : Prop where
  rd : WkAt wr b s at' good v
  node : wr.heap[nb]? = some (.cells #[.string (str nm), .int .i64 parent, av, .int .i64 (at2 : Int), .int .i64 0, .int .i64 0] 35 (0, 0))
  own : wr.ownsRow (nb + 1) 41 4 av al.length (al.map attrCells).flatten
  few : al.length ≤ 8
  kept : Kept (· = b) w2 wr
  rest : ∃ f, (s.drop at').length < f ∧ pAttrs f al (s.drop at') at' = R

/-- .. or what is left of it, dead -/
def RDead (w2 wr : World) (b : Nat) (s : B) (v : Value) (R : Ans (List PAttr × B × Nat)) : Prop :=
  ∃ f at', R = .bad f ∧ f.err ≠ 0 ∧ WkAt wr b s at' f v ∧ Kept (· = b) w2 wr
/-- behind the loop -/
def RAttrsEnd (w2 wr : World) (b nb : Nat) (s : B) (v : Value) (nm : B) (parent : Int) (at2 : Nat) (R : Ans (List PAttr × B × Nat)) : Prop :=
  (RDead w2 wr b s v R ∧ ∃ av, wr.heap[nb]? = some (.cells #[.string (str nm), .int .i64 parent, av, .int .i64 (at2 : Int), .int .i64 0, .int .i64 0] 35 (0, 0))) ∨
  ∃ al at' av, RLoop w2 wr b nb s v nm parent at2 R al at' av ∧ R = .ok (al, s.drop at', at')

theorem RLoop.quiet {w2 wr w' : World} {b nb : Nat} {s : B} {v : Value} {nm : B} {parent : Int} {at2 : Nat} {R : Ans (List PAttr × B × Nat)} {al : List PAttr} {at' : Nat} {av : Value}
    (h : RLoop w2 wr b nb s v nm parent at2 R al at' av) (hq : Qt wr w') : RLoop w2 w' b nb s v nm parent at2 R al at' av := by
  obtain ⟨n, rfl⟩ := hq
  exact ⟨h.rd, h.node, h.own, h.few, h.kept.drewN n, h.rest⟩

/-- within a round, an attribute begun: the walk is dead or alive -/
structure RRnd (w2 wr : World) (b nb ab : Nat) (s : B) (v : Value) (nm : B) (parent : Int) (at2 : Nat) (al : List PAttr) (av : Value) (nm5 : B) (f : Flt) (p : Nat) : Prop where
  rd : WkAt wr b s p f v
  node : wr.heap[nb]? = some (.cells #[.string (str nm), .int .i64 parent, av, .int .i64 (at2 : Int), .int .i64 0, .int .i64 0] 35 (0, 0))
  own : wr.ownsRow (nb + 1) 41 4 av al.length (al.map attrCells).flatten
  box : wr.heap[ab]? = some (.cells #[.string (str nm5), .string ⟨#[]⟩, .int .i64 0, .int .i64 0] 41 (0, 0))
  kept : Kept (· = b) w2 wr
  alive : f.err = 0 → f = good
  off : ∀ k, av.ownBlock = some k → k ≠ ab
  hbn : b < nb
  hna : nb < ab
  hw2 : w2.heap.size = nb
theorem RRnd.step {w2 wr wx : World} {b nb ab : Nat} {s : B} {v : Value} {nm : B} {parent : Int} {at2 : Nat} {al : List PAttr} {av : Value} {nm5 : B} {f f' : Flt} {p p' : Nat}
    (h : RRnd w2 wr b nb ab s v nm parent at2 al av nm5 f p) (hk : Kept (· = b) wr wx) (hr : WkAt wx b s p' f' v) (ha : f'.err = 0 → f' = good) : RRnd w2 wx b nb ab s v nm parent at2 al av nm5 f' p' := by
  have h1 := h.hbn
  have h2 := h.hna
  have h3 := h.hw2
  exact ⟨hr, hk.heap (by omega) h.node, owns_kept h.own hk (fun k hk' => by have := (h.own.lt k hk').1; omega), hk.heap (by omega) h.box, h.kept.trans hk, ha, h.off, h1, h2, h.hw2⟩
theorem RRnd.quiet {w2 wr wx : World} {b nb ab : Nat} {s : B} {v : Value} {nm : B} {parent : Int} {at2 : Nat} {al : List PAttr} {av : Value} {nm5 : B} {f : Flt} {p : Nat}
    (h : RRnd w2 wr b nb ab s v nm parent at2 al av nm5 f p) (hk : Kept (fun _ => False) wr wx) : RRnd w2 wx b nb ab s v nm parent at2 al av nm5 f p :=
  h.step (hk.mono fun _ _ hh => hh.elim) (h.rd.kept hk id) h.alive
theorem info_attr' : (Try.prog.info? 41).map (fun i => (i.zero, i.size, i.bytes)) = some (some (.agg #[.string ⟨#[]⟩, .string ⟨#[]⟩, .int .i64 0, .int .i64 0]), 4, 48) := A.info41
theorem info_node' : (Try.prog.info? 35).map (fun i => (i.zero, i.size, i.bytes)) = some (some (.agg #[.string ⟨#[]⟩, .int .i64 0, .slice none 0 0, .int .i64 0, .int .i64 0, .int .i64 0]), 6, 72) := A.info35
theorem isVal_is {c : UInt8} (h : isVal c = true) : 32 ≤ (c.toNat : Int) ∧ (c.toNat : Int) ≤ 126 ∧ ((c.toNat : Int) == 34) = false ∧ ((c.toNat : Int) == 60) = false ∧ ((c.toNat : Int) == 38) = false := by
  simp [isVal] at h; simp; omega
theorem isVal_not {c : UInt8} (h : isVal c = false) : (c.toNat : Int) < 32 ∨ (32 ≤ (c.toNat : Int) ∧ 126 < (c.toNat : Int)) ∨
    (32 ≤ (c.toNat : Int) ∧ (c.toNat : Int) ≤ 126 ∧ ((c.toNat : Int) == 34) = true) ∨ (32 ≤ (c.toNat : Int) ∧ (c.toNat : Int) ≤ 126 ∧ ((c.toNat : Int) == 34) = false ∧ ((c.toNat : Int) == 60) = true) ∨
    (32 ≤ (c.toNat : Int) ∧ (c.toNat : Int) ≤ 126 ∧ ((c.toNat : Int) == 34) = false ∧ ((c.toNat : Int) == 60) = false ∧ ((c.toNat : Int) == 38) = true) := by
  simp [isVal] at h; simp; omega
theorem any_from {al : List PAttr} {i : Nat} {x : PAttr} (h : al[i]? = some x) (nm : B) : ((al.drop i).any fun a => a.name == nm) = ((x.name == nm) || ((al.drop (i + 1)).any fun a => a.name == nm)) := by
  rw [List.drop_eq_getElem_cons (List.getElem?_eq_some_iff.1 h).1, List.any_cons, (List.getElem?_eq_some_iff.1 h).2]
theorem owns_slice {w : World} {base t n : Nat} {av : Value} {al : List PAttr} {cs : List Value} (h : w.ownsRow base t n av al.length cs) : ∃ ao ac, av = .slice ao al.length ac := by
  rcases h.2 with ⟨rfl, hn⟩ | ⟨g, cap, cur, rfl, _⟩
  · exact ⟨none, 0, by rw [hn]⟩
  · exact ⟨_, cap, rfl⟩
/-- what the rest of an attribute answers, its name read -/
def attrRest (al : List PAttr) (lo : Nat) (s : B) (nm : B) (p : Nat) : Ans (PAttr × B × Nat) :=
  (pMust [61, 34] (s.drop p) p).then fun x => (pMust [34] (x.1.drop (pVal x.1).length) (x.2 + (pVal x.1).length)).then fun y => .ok (⟨nm, pVal x.1, (lo : Int), (y.2 : Int)⟩, y.1, y.2)
theorem pAttr_steps (al : List PAttr) (s : B) (lo : Nat) : pAttr al (s.drop lo) lo = (pName (s.drop (lo + 1)) (lo + 1)).then fun x =>
    if (al.any fun a => a.name == x.1) || al.length == 8 then .bad ⟨if al.length = 8 then 5 else 7, lo + 1⟩ else (pMust [61, 34] x.2.1 x.2.2).then fun x2 => (pMust [34] (x2.1.drop (pVal x2.1).length) (x2.2 + (pVal x2.1).length)).then fun y => .ok (⟨x.1, pVal x2.1, (lo : Int), (y.2 : Int)⟩, y.1, y.2) := by
  unfold pAttr; rw [List.drop_drop]

set_option maxRecDepth 100000 in
set_option maxHeartbeats 25600000 in
theorem relem_any (items : Int → Nat → List PNode → B → Nat → Ans (List PNode × B × Nat)) (s : B) (base b F : Nat)
    (IH : ∀ (parent : Int) (deep : Nat) (ns : List PNode) (at_ : Nat) (v : Value) (w : World), s.length - at_ < F → deep ≤ 21 → Wk w base b s at_ v ns →
      Calls Try.prog 21 #[.pointer (some ⟨b, 0, none⟩), .int .i64 parent, .int .i64 (deep : Int)] w (RItemsEnds w base b s v (items parent deep ns (s.drop at_) at_)))
    (NBI : ∀ p d n l a, NB (items p d n l a))
    (parent : Int) (deep : Nat) (ns : List PNode) (at_ : Nat) (v : Value) (w : World) (hF : s.length - at_ ≤ F) (hdeep : deep ≤ 21) (h : Wk w base b s at_ v ns) :
    Calls Try.prog 31 #[.pointer (some ⟨b, 0, none⟩), .int .i64 parent, .int .i64 (deep : Int)] w (RItemsEnds w base b s v (pElem items parent deep ns (s.drop at_) at_)) := by
  obtain ⟨r, HR⟩ : ∃ r, Hid (pElem items parent deep ns (s.drop at_) at_ = r) := ⟨_, rfl⟩
  rw [HR.out]
  have HI := Lib.hid IH
  have H := Lib.hid h
  have HNBI := Lib.hid NBI
  have c1 := h.rd.c1
  have c4 := h.rd.c4
  have hfew := h.few
  have hb := h.hb
  have hbase := h.hbase
  obtain ⟨avs, hav, how, _⟩ := h.nodes
  obtain ⟨vo, vc, hv⟩ : ∃ vo vc, v = .slice vo ns.length vc := by
    rcases how.2 with ⟨rfl, hn⟩ | ⟨g, cap, cur, rfl, _⟩
    · exact ⟨none, 0, by rw [hn]⟩
    · exact ⟨_, cap, rfl⟩
  subst hv
  clear h IH NBI hav how
  by_cases hd : 20 < deep
  · go_enter Try.func31, Try.ntmps31
    go_wp2_with (go_at_call 23; refine (stop_good 4 at_ _ b s at_ _ _ H.out.rd rfl).mono ?_; rintro e w4 ⟨rfl, hk4, h4⟩)
    obtain rfl : r = .bad ⟨4, at_⟩ := by rw [← HR.out]; unfold pElem pOpen; rw [if_pos hd]; rfl
    go_end0
    exact ⟨rfl, hk4.mono (fun k _ hk => .inl hk), at_, _, h4⟩
  by_cases hn : ns.length = 120
  · go_enter Try.func31, Try.ntmps31
    have e8 : (120 : Int) ≤ (ns.length : Int) := by omega
    have hdn : ¬ (20 : Int) < (deep : Int) := by omega
    have HN := Lib.hid hn
    clear hn
    go_wp2_with (go_at_call 23; refine (stop_good 4 at_ _ b s at_ _ _ H.out.rd rfl).mono ?_; rintro e w4 ⟨rfl, hk4, h4⟩)
    obtain rfl : r = .bad ⟨4, at_⟩ := by rw [← HR.out]; unfold pElem pOpen; rw [if_neg hd, if_pos HN.out]; rfl
    go_end0
    exact ⟨rfl, hk4.mono (fun k _ hk => .inl hk), at_, _, h4⟩
  have e8 : decide ((120 : Int) ≤ (ns.length : Int)) = false := by simp; omega
  have hdd : decide ((20 : Int) < (deep : Int)) = false := by simp; omega
  have hop : pElem items parent deep ns (s.drop at_) at_ = (pMust [60] (s.drop at_) at_).then fun (l1, at1) => (pName l1 at1).then fun (nm, l2, at2) =>
      (pAttrs (l2.length + 1) [] l2 at2).then fun (al, l3, at3) =>
      (pMust [62] l3 at3).then fun (l4, at4) =>
      (pInside items deep ns ⟨nm, parent, al, at2, 0, 0⟩ l4 at4).then fun (ns2, l5, at5) =>
      (pMust ([60, 47] ++ nm ++ [62]) l5 at5).then fun (l6, at6) => .ok (ns2, l6, at6) := by
    unfold pElem pOpen
    rw [if_neg hd, if_neg hn]
    cases pMust [60] (s.drop at_) at_ with
    | bad f => rfl
    | ok x =>
      simp only [Ans.ok_then]
      cases pName x.1 x.2 with
      | bad f => rfl
      | ok y =>
        simp only [Ans.ok_then]
        cases pAttrs (y.2.1.length + 1) [] y.2.1 y.2.2 with
        | bad f => rfl
        | ok z =>
          simp only [Ans.ok_then]
          cases pMust [62] z.2.1 z.2.2 <;> rfl
  rw [hop] at HR
  have S0 : Hid (St r good _) := Lib.hid ⟨fun hh => absurd rfl hh, fun _ => HR.out.symm⟩
  clear hop hd hn
  go_enter Try.func31, Try.ntmps31
  go_wp2_with fail
  refine (need_gen [60] _ b s at_ good _ H.out.rd (fun _ => rfl) (by decide) (by simp)).mono ?_
  rintro e w1 ⟨rfl, hk1, f1, at1, h1, hg1, hs1⟩
  have hlt1 : f1.err = 0 → at_ < at1 := fun hh => by
    rcases hs1.out.2 rfl with ⟨_, h⟩ | ⟨h, _⟩
    · unfold pMust at h
      split at h
      · simp only [Ans.ok.injEq, Prod.mk.injEq, List.length_cons, List.length_nil] at h; omega
      · cases h
    · exact absurd hh h
  have S1 := Lib.hid (S0.out.step hs1.out)
  have K1 := Lib.hid hk1
  have H1 := Lib.hid h1
  clear hk1 h1 hs1 S0
  go_wp2_with fail
  refine (name_gen _ b s at1 f1 _ H1.out hg1).mono ?_
  rintro e w2 ⟨nm, rfl, hk2, f2, at2, h2, hg2, hs2⟩
  have hlt2 : f2.err = 0 → at_ < at2 := fun hh => by
    by_cases hf : f1.err = 0
    · rcases hs2.out.2 hf with ⟨_, hn⟩ | ⟨hn, _⟩
      · have h3 := (pName_ok hn).2.2.1
        have := hlt1 hf
        omega
      · exact absurd hh hn
    · have := hs2.out.1 hf
      rw [this] at hh; exact absurd hh hf
  clear hlt1
  have S2 := Lib.hid (S1.out.step hs2.out)
  have K2 := Lib.hid (K1.out.trans hk2)
  have H2 := Lib.hid h2
  have c1' := h2.c1
  clear hk2 h2 hs2 S1 c1 c4
  go_wp2_with fail
  by_cases hf2 : f2.err = 0
  · obtain ⟨hgg, hnml⟩ := hg2 hf2
    have hlt2' := hlt2 hf2
    clear hlt2
    subst hgg
    obtain ⟨R, HRR⟩ : ∃ R, Hid (pAttrs ((s.drop at2).length + 1) [] (s.drop at2) at2 = R) := ⟨_, rfl⟩
    obtain ⟨nb, HNB⟩ : ∃ nb, Hid (w2.heap.size = nb) := ⟨_, rfl⟩
    have hstart : RLoop w2 (w2.alloc (.cells #[.string (str nm), .int .i64 parent, .slice none 0 0, .int .i64 (at2 : Int), .int .i64 0, .int .i64 0] 35)) b nb s
        (.slice vo ns.length vc) nm parent at2 R [] at2 (.slice none 0 0) :=
      ⟨H2.out.alloc _, by rw [← HNB.out]; exact newIn _ _, World.ownsRow_nil _ _ _ _, by simp, (Kept.refl _ _).alloc _, ⟨_, by omega, HRR.out⟩⟩
    have HS := Lib.hid hstart
    have hbw := H2.out.lt
    clear hstart hg1 hg2 hf2 c1' K1 H1
    refine (ok_is true _ _ _ _ _ _ HS.out.rd rfl).mono ?_
    rintro e w3 ⟨rfl, hw3⟩
    have hnb := HNB.out
    rw [hnb] at hbw ⊢
    rw [← hw3] at HS
    clear hnb hw3
    go_upto_block 0 with fail
    go_cut [] (fun wx => RAttrsEnd w2 wx b nb s (.slice vo ns.length vc) nm parent at2 R)
    case first => as_aux_lemma =>
      go_wp2_with fail
      go_loopg [] (s.length - at2 + 1) (fun k wr => (RDead w2 wr b s (.slice vo ns.length vc) R ∧ (∃ av, wr.heap[nb]? = some (.cells #[.string (str nm), .int .i64 parent, av, .int .i64 (at2 : Int), .int .i64 0, .int .i64 0] 35 (0, 0))) ∧ k = 0) ∨
        ∃ al at' av, RLoop w2 wr b nb s (.slice vo ns.length vc) nm parent at2 R al at' av ∧ k = s.length - at' + 1)
      case atStart => exact .inr ⟨_, _, _, HS.out, rfl⟩
      case round => as_aux_lemma =>
        rcases hrel with ⟨⟨f, at', hRb, hfe, hwk, hkd⟩, ⟨av, hnode⟩, rfl⟩ | ⟨al, at', av, hL, hk⟩
        · as_aux_lemma =>
          have HW := Lib.hid hwk
          have HN := Lib.hid hnode
          have HKD := Lib.hid hkd
          clear hwk hnode hkd
          go_wp2_with fail
          refine (on_dead [32] _ _ _ _ _ _ HW.out hfe).mono ?_
          rintro e w4 ⟨rfl, n4, rfl⟩
          as_aux_lemma =>
          go_wp2_with fail
          go_meet
          case rel => exact .inl ⟨⟨f, at', hRb, hfe, HW.out.drewN n4, HKD.out.drewN n4⟩, av, HN.out⟩
        · as_aux_lemma =>
          have HL := Lib.hid hL
          have hl := hL.rd.2.1
          have hm := hL.rd.2.2
          clear hL
          go_wp2_with fail
          cases hm2 : ([32] : B).isPrefixOf (s.drop at') with
          | false => as_aux_lemma =>
            refine (on_good [32] false _ _ _ _ _ _ HL.out.rd rfl (by decide) hm2).mono ?_
            rintro e w4 ⟨rfl, n4, rfl⟩
            have hRok : Hid (R = .ok (al, s.drop at', at')) := Lib.hid (by
              obtain ⟨f, hf, hR⟩ := HL.out.rest
              cases f with
              | zero => omega
              | succ f => rw [← hR, pAttrs, hm2, if_neg (by simp)])
            clear hm2
            as_aux_lemma =>
            go_wp2_with fail
            go_meet
            case rel => exact .inr ⟨al, at', av, HL.out.quiet ⟨n4, rfl⟩, hRok.out⟩
          | true => as_aux_lemma =>
            have hlt : at' < s.length := by
              have := (List.isPrefixOf_iff_prefix.1 hm2).length_le
              rw [List.length_drop] at this; simp at this; omega
            refine (on_good [32] true _ _ _ _ _ _ HL.out.rd rfl (by decide) hm2).mono ?_
            rintro e w4 ⟨rfl, n4, rfl⟩
            have c1 := HL.out.rd.c1
            have f1 := HL.out.rd.free 1
            have HM2 := Lib.hid hm2
            clear hm2
            as_aux_lemma =>
            go_wp2_with fail
            refine (name_gen _ b s (at' + 1) good (.slice vo ns.length vc) ((HL.out.rd.drewN n4).set (by omega) (by omega)) (fun _ => rfl)).mono ?_
            rintro e w5 ⟨nm5, rfl, hk5, f5, p5, h5, hg5, hs5⟩
            obtain ⟨A, HA⟩ : ∃ A, Hid (pAttr al (s.drop at') at' = A) := ⟨_, rfl⟩
            have SA : St A f5 _ := St.step (k := fun x => if (al.any fun a => a.name == x.1) || al.length == 8 then .bad ⟨if al.length = 8 then 5 else 7, at' + 1⟩ else (pMust [61, 34] x.2.1 x.2.2).then fun x2 => (pMust [34] (x2.1.drop (pVal x2.1).length) (x2.2 + (pVal x2.1).length)).then fun y => .ok (⟨x.1, pVal x2.1, (at' : Int), (y.2 : Int)⟩, y.1, y.2)) ⟨fun hh => absurd rfl hh, fun _ => by rw [← HA.out]; exact pAttr_steps al s at'⟩ hs5.out
            have S5 := Lib.hid SA
            have K5 : Hid (Kept (· = b) w2 w5) := Lib.hid ((((HL.out.kept.drewN n4).setCell (p := ⟨b, 1, none⟩) (.inl rfl) _)).trans hk5)
            have H5 := Lib.hid h5
            have hnb5 : ¬ nb = b := by omega
            have hno5 := hk5.heap (k := nb) hnb5 (otherIn HL.out.node ⟨b, 1, none⟩ _ hnb5)
            have HNO5 := Lib.hid hno5
            have hown5 := owns_kept HL.out.own (((Kept.refl (· = b) wr).drewN n4).setCell (p := ⟨b, 1, none⟩) (.inl rfl) (.int .i64 ((at' : Int) + 1))) (fun k hk => by have := (HL.out.own.lt k hk).1; omega)
            have K5w := Lib.hid hk5
            clear SA hs5 hk5 h5 hno5 c1 f1
            obtain ⟨ab, HAB⟩ : ∃ ab, Hid (w5.heap.size = ab) := ⟨_, rfl⟩
            obtain ⟨w6, HW6⟩ : ∃ x, Hid (w5.alloc (.cells #[.string (str nm5), .string ⟨#[]⟩, .int .i64 0, .int .i64 0] 41 (0, 0)) = x) := ⟨_, rfl⟩
            obtain ⟨ao, ac, rfl⟩ := owns_slice HL.out.own
            have hown5' : w5.ownsRow (nb + 1) 41 4 (.slice ao al.length ac) al.length (al.map attrCells).flatten := owns_kept hown5 K5w.out (fun k hk => by have := (HL.out.own.lt k hk).1; omega)
            have hrr : RRnd w2 w6 b nb ab s (.slice vo ns.length vc) nm parent at2 al (.slice ao al.length ac) nm5 f5 p5 := by
              rw [← HW6.out]
              have hnl := ltIn HNO5.out
              exact ⟨H5.out.alloc _, oldIn HNO5.out _, hown5'.alloc _, by rw [← HAB.out]; exact newIn _ _, K5.out.alloc _, fun hh => (hg5 hh).1, fun k hk => by have := (hown5'.lt k hk).2; have := HAB.out; omega, hbw, by have := HAB.out; omega, HNB.out⟩
            have hn5l := hg5
            obtain ⟨K, HK⟩ : ∃ K : Ans (PAttr × B × Nat), Hid (((pMust [61, 34] (s.drop p5) p5).then fun x2 => (pMust [34] (x2.1.drop (pVal x2.1).length) (x2.2 + (pVal x2.1).length)).then fun y => .ok ((⟨nm5, pVal x2.1, (at' : Int), (y.2 : Int)⟩ : PAttr), y.1, y.2)) = K) := ⟨_, rfl⟩
            have S6 : Hid (St A f5 (if (al.any fun a => a.name == nm5) || al.length == 8 then .bad ⟨if al.length = 8 then 5 else 7, at' + 1⟩ else K)) := Lib.hid (by rw [← HK.out]; exact S5.out)
            have x2 := cellIn hrr.node 2 rfl
            have HRR6 := Lib.hid hrr
            have h8 := HL.out.few
            clear S5 hrr hown5 hown5' hg5
            as_aux_lemma =>
            go_upto_region 11 with fail
            rw [HW6.out, HAB.out]
            go_cut [74] (fun c wx => ∃ x : Bool, c = .bool x ∧ wx = w6 ∧ (x = true → f5.err = 0 ∧ al.length = 8) ∧ (x = false → f5.err = 0 → al.length < 8))
            case first => as_aux_lemma =>
              go_wp2_with fail
              refine (ok_any _ b s p5 f5 _ HRR6.out.rd).mono ?_
              rintro e w7 ⟨rfl, hw7⟩
              rw [hw7]
              clear hw7
              by_cases hf : f5.err = 0
              · as_aux_lemma =>
                have hb5 : ((f5.err : Int) == 0) = true := by simp [hf]
                rw [hb5]
                by_cases h88 : al.length = 8
                · as_aux_lemma =>
                  have e8 : decide ((8 : Int) ≤ (al.length : Int)) = true := by simp; omega
                  have HN := Lib.hid h88
                  clear h88
                  go_wp2_with fail
                  go_meet
                  case rel => exact ⟨true, rfl, rfl, fun _ => ⟨hf, HN.out⟩, fun hh => by cases hh⟩
                · as_aux_lemma =>
                  have e8 : decide ((8 : Int) ≤ (al.length : Int)) = false := by simp; omega
                  go_wp2_with fail
                  go_meet
                  case rel => exact ⟨false, rfl, rfl, fun hh => (by cases hh), fun _ _ => by omega⟩
              · as_aux_lemma =>
                have hb5 : ((f5.err : Int) == 0) = false := by simp; omega
                rw [hb5]
                go_wp2_with fail
                go_meet
                case rel => exact ⟨false, rfl, rfl, fun hh => (by cases hh), fun _ hh => absurd hh hf⟩
            obtain ⟨x, rfl, rfl, hx1, hx2⟩ := hcut
            as_aux_lemma =>
            go_upto_if 74 with fail
            go_cut [] (fun wx => ∃ f, Hid (RRnd w2 wx b nb ab s (.slice vo ns.length vc) nm parent at2 al (.slice ao al.length ac) nm5 f p5) ∧ Hid (St A f (if (al.any fun a => a.name == nm5) then .bad ⟨7, at' + 1⟩ else K)) ∧ (f.err = 0 → al.length < 8 ∧ nm5.length ≤ 20))
            case first => as_aux_lemma =>
              cases x with
              | true => as_aux_lemma =>
                obtain ⟨hf, h88⟩ := hx1 rfl
                have HN := Lib.hid h88
                clear h88 hx1 hx2
                go_wp2_with (go_at_call 23; refine (stop_good 5 (at' + 1) _ b s p5 f5 _ HRR6.out.rd hf).mono ?_; rintro e w8 ⟨rfl, hk8, hr8⟩)
                go_meet
                case rel =>
                  refine ⟨⟨5, at' + 1⟩, Lib.hid (HRR6.out.step hk8 hr8 (fun hh => absurd hh (by simp))), Lib.hid ⟨fun _ => ?_, fun hh => absurd hh (by simp)⟩, fun hh => absurd hh (by simp)⟩
                  rw [S6.out.2 hf, HN.out]; simp
              | false => as_aux_lemma =>
                have h8' := hx2 rfl
                clear hx1 hx2
                go_wp2_with fail
                go_meet
                case rel =>
                  refine ⟨f5, HRR6, Lib.hid ⟨S6.out.1, fun hf => ?_⟩, fun hf => ⟨h8' hf, (hn5l hf).2⟩⟩
                  rw [S6.out.2 hf]
                  have h9 := h8' hf
                  have : (al.length == 8) = false := by simp; omega
                  have h10 : ¬ al.length = 8 := by omega
                  simp only [this, Bool.or_false, if_neg h10]
            case rest => as_aux_lemma =>
              obtain ⟨f6, HRR7, S7, h86⟩ := hcut
              have x2 := cellIn HRR7.out.node 2 rfl
              clear HRR6 S6 HW6 HAB
              go_wp2_with fail
              go_loopw [81] (fun c wy => ∃ (i : Nat) (f : Flt), i ≤ al.length ∧ c = .int .i64 (i : Int) ∧ Hid (RRnd w2 wy b nb ab s (.slice vo ns.length vc) nm parent at2 al (.slice ao al.length ac) nm5 f p5) ∧ Hid (St A f (if ((al.drop i).any fun a => a.name == nm5) then .bad ⟨7, at' + 1⟩ else K)) ∧ (f.err = 0 → al.length < 8 ∧ nm5.length ≤ 20)) (fun c _ => al.length - (intOf c).toNat)
              case atStart => exact ⟨0, f6, by omega, rfl, HRR7, S7, h86⟩
              case round => as_aux_lemma =>
                obtain ⟨i, f, hi, rfl, HRI, SI, h8i⟩ := hrel
                obtain ⟨wy, hwy⟩ : ∃ x, x = wr := ⟨_, rfl⟩
                subst hwy
                by_cases hlt : i < al.length
                · as_aux_lemma =>
                  have hx := List.getElem?_eq_getElem hlt
                  generalize hgx : al[i] = x at hx
                  clear hgx
                  have hany := any_from hx nm5
                  obtain ⟨xb, xoff, hxa, g0, g1, g2, g3⟩ := AttrsAt.at (attrsAt_of_owns HRI.out.own) hx
                  subst hxa
                  have HANY := Lib.hid hany
                  clear hany hx
                  as_aux_lemma =>
                  go_upto_region 16 with fail
                  obtain ⟨wz, HWZ⟩ : ∃ z, Hid (wy.alloc (.cells #[.string (str x.name), .string (str x.val), .int .i64 x.lo, .int .i64 x.hi] 41 (0, 0)) = z) := ⟨_, rfl⟩
                  have HRZ := Lib.hid (HRI.out.quiet (wx := wz) (by rw [← HWZ.out]; exact (Kept.refl _ _).alloc _))
                  have z0 : wz.cell? ⟨wy.heap.size, 0, none⟩ = some (.string (str x.name)) := by rw [← HWZ.out]; exact cellIn (newIn wy _) 0 rfl
                  have z1 := cellIn HRZ.out.box 0 rfl
                  rw [HWZ.out]
                  clear g0 g1 g2 g3
                  as_aux_lemma =>
                  go_wp2_with fail
                  refine (ok_any _ b s p5 f _ HRZ.out.rd).mono ?_
                  rintro e w8 ⟨rfl, hw8⟩
                  rw [hw8]
                  clear hw8
                  by_cases hf : f.err = 0
                  · as_aux_lemma =>
                    have hb5 : ((f.err : Int) == 0) = true := by simp [hf]
                    rw [hb5]
                    cases hxn : (x.name == nm5) with
                    | true => as_aux_lemma =>
                      go_wp2_with (go_at_call 23; refine (stop_good 7 (at' + 1) _ b s p5 f _ HRZ.out.rd hf).mono ?_; rintro e w9 ⟨rfl, hk9, hr9⟩)
                      go_roundw
                      case measure => simp [intOf]; omega
                      case rel =>
                        refine ⟨i + 1, ⟨7, at' + 1⟩, by omega, by go_num, Lib.hid (HRZ.out.step hk9 hr9 (fun hh => absurd hh (by simp))), Lib.hid ⟨fun _ => ?_, fun hh => absurd hh (by simp)⟩, fun hh => absurd hh (by simp)⟩
                        rw [SI.out.2 hf, HANY.out, hxn, Bool.true_or, if_pos rfl]
                    | false => as_aux_lemma =>
                      go_wp2_with fail
                      go_roundw
                      case measure => simp [intOf]; omega
                      case rel =>
                        refine ⟨i + 1, f, by omega, by go_num, HRZ, Lib.hid ⟨SI.out.1, fun hf' => ?_⟩, h8i⟩
                        rw [SI.out.2 hf', HANY.out, hxn, Bool.false_or]
                  · as_aux_lemma =>
                    have hb5 : ((f.err : Int) == 0) = false := by simp; omega
                    rw [hb5]
                    go_wp2_with fail
                    go_roundw
                    case measure => simp [intOf]; omega
                    case rel => exact ⟨i + 1, f, by omega, by go_num, HRZ, Lib.hid ⟨SI.out.1, fun hh => absurd hh hf⟩, h8i⟩
                · as_aux_lemma =>
                  obtain rfl : i = al.length := by omega
                  have HRI' := HRI
                  have SK : Hid (St A f K) := Lib.hid (by
                    have := SI.out
                    rw [List.drop_length] at this
                    exact this)
                  clear S7 HRR7 SI HRI x2 h86
                  as_aux_lemma =>
                  go_wp2_with fail
                  refine (need_gen [61, 34] _ b s p5 f _ HRI'.out.rd HRI'.out.alive (by decide) (by simp)).mono ?_
                  rintro e w7 ⟨rfl, hk7, f7, p7, hr7, hg7, hs7⟩
                  have HR7 := Lib.hid (HRI'.out.step hk7 hr7 hg7)
                  have S7 := Lib.hid (St.step (by rw [HK.out]; exact SK.out) hs7.out)
                  have h87 : f7.err = 0 → al.length < 8 ∧ nm5.length ≤ 20 := fun hh => by
                    by_cases hf : f.err = 0
                    · exact h8i hf
                    · have := hs7.out.1 hf; rw [this] at hh; exact absurd hh hf
                  have hl7 := hr7.2.1
                  have c07 := hr7.c0
                  have c17 := hr7.c1
                  clear hk7 hr7 hg7 hs7 SK HRI'
                  obtain ⟨nv, HNV⟩ : ∃ nv, Hid ((pVal (s.drop p7)).length = nv) := ⟨_, rfl⟩
                  have hnv : p7 + nv ≤ s.length := by
                    have := takeWhile_len_le isVal (s.drop p7)
                    have h2 : (pVal (s.drop p7)).length = nv := HNV.out
                    unfold pVal at h2
                    rw [List.length_drop] at this
                    omega
                  have HIN : Hid (∀ j, j < nv → ∃ h : p7 + j < s.length, isVal (s[p7 + j]'h) = true) := Lib.hid fun j hj => by
                    have h2 : (pVal (s.drop p7)).length = nv := HNV.out
                    obtain ⟨h3, h4⟩ := takeWhile_in isVal (s.drop p7) j (by unfold pVal at h2; omega)
                    refine ⟨by rw [List.length_drop] at h3; omega, ?_⟩
                    rw [drop_get s p7 j h3] at h4; exact h4
                  have HOUT : Hid ((h : p7 + nv < s.length) → isVal (s[p7 + nv]'h) = false) := Lib.hid fun hlt => by
                    have h2 : (pVal (s.drop p7)).length = nv := HNV.out
                    unfold pVal at h2
                    have h5 : ((s.drop p7).takeWhile isVal).length < (s.drop p7).length := by rw [List.length_drop]; omega
                    have h6 := takeWhile_stop isVal (s.drop p7) h5
                    rw [drop_get s p7 _ h5] at h6
                    have : ∀ k, (hk : k = nv) → (h : p7 + k < s.length) → isVal (s[p7 + k]'h) = false → isVal (s[p7 + nv]'(by omega)) = false := by
                      intro k hk; subst hk; exact fun _ h => h
                    exact this _ h2 _ h6
                  as_aux_lemma =>
                  go_upto_block 4 with fail
                  go_cut [13] (fun k wx => wx = w7 ∧ ∃ e : Nat, k = .int .i64 (e : Int) ∧ (f7.err = 0 → e = p7 + nv))
                  case first => as_aux_lemma =>
                    go_wp2_with fail
                    go_loopw [13] (fun k wx => wx = w7 ∧ ∃ j : Nat, j ≤ nv ∧ k = .int .i64 ((p7 + j : Nat) : Int)) (fun k _ => s.length - (intOf k).toNat)
                    case atStart => exact ⟨rfl, 0, by omega, rfl⟩
                    case round => as_aux_lemma =>
                      obtain ⟨rfl, j, hj, rfl⟩ := hrel
                      go_wp2_with fail
                      refine (ok_any _ b s p7 f7 _ HR7.out.rd).mono ?_
                      rintro e w8 ⟨rfl, hw8⟩
                      rw [hw8]
                      clear hw8
                      by_cases hf : f7.err = 0
                      · as_aux_lemma =>
                        have hb5 : ((f7.err : Int) == 0) = true := by simp [hf]
                        rw [hb5]
                        by_cases hlt : j < nv
                        · as_aux_lemma =>
                          obtain ⟨h3, h2⟩ := HIN.out j hlt
                          obtain ⟨g1, g2, g3, g4, g5⟩ := isVal_is h2
                          clear h2
                          go_wp2_with fail
                          go_roundw
                          case rel => exact ⟨trivial, j + 1, by omega, by go_num⟩
                          case measure => simp [intOf]; omega
                        · as_aux_lemma =>
                          obtain rfl : j = nv := by omega
                          by_cases h3 : p7 + j < s.length
                          · as_aux_lemma =>
                            rcases isVal_not (HOUT.out h3) with g1 | ⟨g1, g2⟩ | ⟨g1, g2, g3⟩ | ⟨g1, g2, g3, g4⟩ | ⟨g1, g2, g3, g4, g5⟩
                            all_goals
                              go_wp2_with fail
                              go_meet
                              case rel => exact ⟨rfl, _, rfl, fun _ => rfl⟩
                          · as_aux_lemma =>
                            go_wp2_with fail
                            go_meet
                            case rel => exact ⟨rfl, _, rfl, fun _ => rfl⟩
                      · as_aux_lemma =>
                        have hb5 : ((f7.err : Int) == 0) = false := by simp; omega
                        rw [hb5]
                        go_wp2_with fail
                        go_meet
                        case rel => exact ⟨rfl, _, rfl, fun hh => absurd hh hf⟩
                  case rest => as_aux_lemma =>
                    obtain ⟨rfl, e, rfl, he⟩ := hcut
                    clear HIN HOUT
                    by_cases hf : f7.err = 0
                    · as_aux_lemma =>
                      obtain rfl := he hf
                      obtain rfl := HR7.out.alive hf
                      obtain ⟨hl8, hnl5⟩ := h87 rfl
                      have S8 := S7.out.2 rfl
                      have hna := HR7.out.hna
                      have hbn := HR7.out.hbn
                      have hba : ¬ b = ab := by omega
                      have hab : ¬ ab = b := by omega
                      have c0 := HR7.out.rd.c0
                      have c1 := HR7.out.rd.c1
                      have f1 := HR7.out.rd.free 1
                      have t1 := cellIn HR7.out.box 1 rfl
                      have u1 := freeIn HR7.out.box 1
                      as_aux_lemma =>
                      go_wp2_with (go_at_call 22; refine (ok_is true _ _ _ _ _ _ HR7.out.rd rfl).mono ?_; rintro e w8 ⟨rfl, rfl⟩)
                      go_region
                      go_wp2_with fail
                      have hval : (s.drop p7).take nv = pVal (s.drop p7) := by rw [← HNV.out]; exact takeWhile_take isVal _
                      obtain ⟨wv, HWV⟩ : ∃ z, Hid (((w8.setCell ⟨ab, 1, none⟩ (.string (str ((s.drop p7).take nv)))).setCell ⟨b, 1, none⟩ (.int .i64 ((p7 : Int) + (nv : Int)))).drew = z) := ⟨_, rfl⟩
                      have h2b := HR7.out.hw2
                      have hr8 : WkAt wv b s (p7 + nv) good (.slice vo ns.length vc) := by
                        rw [← HWV.out]
                        exact ((HR7.out.rd.kept (S := (· = ab)) ((Kept.refl (· = ab) w8).setCell (p := ⟨ab, 1, none⟩) (.inl rfl) _) hba).set (by simp) hnv).drewN 1
                      have hx8 : wv.heap[ab]? = some (.cells #[.string (str nm5), .string (str (pVal (s.drop p7))), .int .i64 0, .int .i64 0] 41 (0, 0)) := by
                        rw [← HWV.out, hval]
                        exact otherIn (setIn HR7.out.box 1 _) _ _ hab
                      have hk8 : Kept (fun k => k = b ∨ k = ab) w8 wv := by
                        rw [← HWV.out]
                        exact (((Kept.refl _ w8).setCell (p := ⟨ab, 1, none⟩) (.inl (.inr rfl)) _).setCell (p := ⟨b, 1, none⟩) (.inl (.inl rfl)) _).drew
                      have ho8 := owns_kept HR7.out.own hk8 (fun k hk hs => by
                        rcases hs with hs | hs
                        · have := (HR7.out.own.lt k hk).1; omega
                        · exact HR7.out.off k hk hs)
                      have hn8 := hk8.heap (k := nb) (by omega) HR7.out.node
                      have hk2 : Kept (· = b) w2 wv := HR7.out.kept.trans' hk8 (fun k hk hs => by rcases hs with hs | hs <;> omega)
                      rw [HWV.out]
                      refine (need_gen [34] _ b s (p7 + nv) good _ hr8 (fun _ => rfl) (by decide) (by simp)).mono ?_
                      rintro e w9 ⟨rfl, hk9, f9, p9, hr9, hg9, hs9⟩
                      have S9 : Hid (St A f9 (.ok ((⟨nm5, pVal (s.drop p7), (at' : Int), (p9 : Int)⟩ : PAttr), s.drop p9, p9))) := Lib.hid (St.step (A := A) (f := good) (k := fun y => .ok ((⟨nm5, pVal (s.drop p7), (at' : Int), (y.2 : Int)⟩ : PAttr), y.1, y.2)) ⟨fun hh => absurd rfl hh, fun _ => by rw [S8, ← HNV.out, List.drop_drop]⟩ hs9.out)
                      have hn9 := hk9.heap (k := nb) (by omega) hn8
                      have ho9 := owns_kept ho8 hk9 (fun k hk => by have := (ho8.lt k hk).1; omega)
                      have hx9 := hk9.heap (k := ab) hab hx8
                      have K9 := Lib.hid (hk2.trans hk9)
                      have H9 := Lib.hid hr9
                      have HO9 := Lib.hid ho9
                      have HN9 := Lib.hid hn9
                      have HX9 := Lib.hid hx9
                      have hoff := HR7.out.off
                      have c1 := hr9.c1
                      have x0 := cellIn hx9 0 rfl
                      have x1 := cellIn hx9 1 rfl
                      have x2 := cellIn hx9 2 rfl
                      have x3 := cellIn hx9 3 rfl
                      have y2 := freeIn hx9 2
                      have y3 := freeIn hx9 3
                      have z2 := cellIn hn9 2 rfl
                      have u2 := freeIn hn9 2
                      have hlw9 := ltIn hx9
                      have hlo9 := hr9.2.1
                      have hls9 := hr9.2.2
                      clear hr8 hx8 hk8 ho8 hn8 hk2 hk9 hr9 hs9 hn9 ho9 hx9 S8 c0 f1 t1 u1 c07 c17 HWV
                      have hna' : ¬ nb = ab := by omega
                      have hna2 : ¬ ab = nb := by omega
                      as_aux_lemma =>
                      go_upto_region 30 with fail
                      obtain ⟨wq, HWQ⟩ : ∃ z, Hid ((w9.setCell ⟨ab, 2, none⟩ (.int .i64 (at' : Int))).setCell ⟨ab, 3, none⟩ (.int .i64 (p9 : Int)) = z) := ⟨_, rfl⟩
                      have hkq : Kept (· = ab) w9 wq := by
                        rw [← HWQ.out]
                        exact ((Kept.refl (· = ab) w9).setCell (p := ⟨ab, 2, none⟩) (.inl rfl) _).setCell (p := ⟨ab, 3, none⟩) (.inl rfl) _
                      have hxq : wq.heap[ab]? = some (.cells #[.string (str nm5), .string (str (pVal (s.drop p7))), .int .i64 (at' : Int), .int .i64 (p9 : Int)] 41 (0, 0)) := by
                        rw [← HWQ.out]
                        exact setIn (setIn HX9.out 2 _) 3 _
                      have hoq : wq.ownsRow (nb + 1) 41 4 (.slice ao al.length ac) al.length (al.map attrCells).flatten := owns_kept HO9.out hkq hoff
                      have hnq := hkq.heap hna' HN9.out
                      have hrq := H9.out.kept hkq hba
                      have hkw : Kept (· = b) w2 wq := K9.out.trans' hkq (fun k hk hs => by omega)
                      clear x0 x1 x2 x3 y2 y3 z2 u2 c1
                      have x0 := cellIn hxq 0 rfl
                      have x1 := cellIn hxq 1 rfl
                      have x2 := cellIn hxq 2 rfl
                      have x3 := cellIn hxq 3 rfl
                      have z2 := cellIn hnq 2 rfl
                      have u2 := freeIn hnq 2
                      have hlq := ltIn hnq
                      have HOQ := Lib.hid hoq
                      have HNQ := Lib.hid hnq
                      have HRQ := Lib.hid hrq
                      have HKW := Lib.hid hkw
                      obtain ⟨i0, hi0, hz0, hz1, hz2⟩ := info_parts info_attr'
                      have HNO : Hid (some nb ≠ (Value.slice ao al.length ac).ownBlock) := Lib.hid fun hx => by
                        have := (HOQ.out.lt nb hx.symm).1
                        omega
                      have z2a : ∀ o, (wq.alloc o).cell? ⟨nb, 2, none⟩ = some (.slice ao al.length ac) := fun o => cell_alloc z2 o
                      have u2a : ∀ o, (wq.alloc o).frozen? ⟨nb, 2, none⟩ = false := fun o => frozen_alloc' (by show nb < _; omega) u2 o
                      rw [HWQ.out]
                      clear hxq hoq hnq hrq hkq hkw
                      as_aux_lemma =>
                      go_wp2_with (at_builtin; refine wpList_append_lies _ rfl _ _ _ rfl (nb + 1) 41 i0 _ 4 48 Try.underlying31 hi0 hz0 hz1 hz2 rfl (by omega) _ al.length _ (by rfl) (HOQ.out.alloc _) ⟨wq.heap.size, 0, none⟩ 1 1 [.string (str nm5), .string (str (pVal (s.drop p7))), .int .i64 (at' : Int), .int .i64 (p9 : Int)] (by rfl) (by rfl) (World.news_of_block (cs := #[.string (str nm5), .string (str (pVal (s.drop p7))), .int .i64 (at' : Int), .int .i64 (p9 : Int)]) (t := 41) (fr := (0, 0)) (heap_alloc_new wq _)) (by simp [Value.oneCell']) (by omega) (by unfold maxLen; omega) (by omega) (by simp; omega) (wq.heap.size + 1) (by simp) ?_; intro gg cap w11 hown11 hgrow11 hat11 hlt11; have x11 : w11.cell? ⟨nb, 2, none⟩ = some (.slice ao al.length ac) := (hgrow11.cell_far _ (by simp; omega) HNO.out).trans (z2a _); have y11 : w11.frozen? ⟨nb, 2, none⟩ = false := (hgrow11.frozen_far _ (by simp; omega) HNO.out).trans (u2a _))
                      have hk11 : Kept (fun k => (Value.slice ao al.length ac).ownBlock = some k) wq w11 := ((Kept.refl _ wq).alloc _).grown ⟨hgrow11.os, hgrow11.tape, hgrow11.output, hgrow11.size, hgrow11.block⟩ (fun k hk => .inl hk)
                      have hob : ∀ k, (Value.slice ao al.length ac).ownBlock = some k → nb + 1 ≤ k := fun k hk => (HOQ.out.lt k hk).1
                      have hn11 : (w11.setCell ⟨nb, 2, none⟩ (.slice (some ⟨gg, 0, none⟩) (al.length + 1) cap)).heap[nb]? = some (.cells #[.string (str nm), .int .i64 parent, .slice (some ⟨gg, 0, none⟩) (al.length + 1) cap, .int .i64 (at2 : Int), .int .i64 0, .int .i64 0] 35 (0, 0)) := by
                        have := setIn (hk11.heap (fun hs => by have := hob nb hs; omega) HNQ.out) 2 (.slice (some ⟨gg, 0, none⟩) (al.length + 1) cap)
                        simpa using this
                      have hr11 : WkAt (w11.setCell ⟨nb, 2, none⟩ (.slice (some ⟨gg, 0, none⟩) (al.length + 1) cap)) b s p9 f9 (.slice vo ns.length vc) :=
                        (HRQ.out.kept hk11 (fun hs => by have := hob b hs; omega)).kept (S := (· = nb)) ((Kept.refl (· = nb) w11).setCell (p := ⟨nb, 2, none⟩) (.inl rfl) _) (by omega)
                      have hk12 : Kept (· = b) w2 (w11.setCell ⟨nb, 2, none⟩ (.slice (some ⟨gg, 0, none⟩) (al.length + 1) cap)) :=
                        (HKW.out.trans' hk11 (fun k hk hs => by have := hob k hs; omega)).setCell (p := ⟨nb, 2, none⟩) (.inr (by show w2.heap.size ≤ nb; omega)) _
                      have ho11 := ownsRow_setCell_below hown11 (a := ⟨nb, 2, none⟩) (by show nb < nb + 1; omega) (.slice (some ⟨gg, 0, none⟩) (al.length + 1) cap)
                      have HN11 := Lib.hid hn11
                      have HR11 := Lib.hid hr11
                      have HK12 := Lib.hid hk12
                      have HO11 := Lib.hid ho11
                      clear hk11 hn11 hr11 hk12 ho11 hgrow11 hown11 x11 y11 hat11
                      obtain ⟨g, hg, hR⟩ := HL.out.rest
                      cases g with
                      | zero => omega
                      | succ g => as_aux_lemma =>
                        unfold pAttrs at hR
                        rw [HM2.out, if_pos rfl, HA.out] at hR
                        by_cases hf9 : f9.err = 0
                        · as_aux_lemma =>
                          obtain rfl := hg9 hf9
                          have hA := S9.out.2 rfl
                          have hpos := pAttr_pos (HA.out.trans hA)
                          rw [hA] at hR
                          have HRR2 : Hid (pAttrs g (al ++ [⟨nm5, pVal (s.drop p7), (at' : Int), (p9 : Int)⟩]) (s.drop p9) p9 = R) := Lib.hid hR
                          clear hR hA
                          go_roundg (s.length - p9 + 1)
                          case measure => omega
                          case rel =>
                            refine .inr ⟨al ++ [⟨nm5, pVal (s.drop p7), (at' : Int), (p9 : Int)⟩], p9, _, ⟨HR11.out, HN11.out, ?_, by simp; omega, HK12.out, g, by rw [List.length_drop] at hg ⊢; omega, HRR2.out⟩, rfl⟩
                            have := HO11.out
                            simpa [attrCells] using this
                        · as_aux_lemma =>
                          have hA := S9.out.1 hf9
                          rw [hA] at hR
                          have HRR2 := Lib.hid hR
                          clear hR hA
                          go_roundg 0
                          case measure => omega
                          case rel => exact .inl ⟨⟨f9, p9, HRR2.out.symm, hf9, HR11.out, HK12.out⟩, ⟨_, HN11.out⟩, rfl⟩
                    · as_aux_lemma =>
                      have hfe : ((f7.err : Int) == 0) = false := by simp; omega
                      have hrb : r = .bad f7 := by
                        have h1 := S7.out.1 hf
                        obtain ⟨g, hg, hR⟩ := HL.out.rest
                        cases g with
                        | zero => omega
                        | succ g =>
                          unfold pAttrs at hR
                          rw [HM2.out, if_pos rfl, HA.out, h1] at hR
                          rw [S2.out.2 rfl, HRR.out, ← hR]; rfl
                      subst hrb
                      as_aux_lemma =>
                      go_wp2_with (go_at_call 22; refine (ok_is false _ _ _ _ _ _ HR7.out.rd hfe).mono ?_; rintro e w8 ⟨rfl, rfl⟩)
                      go_end0
                      exact ⟨rfl, (K2.out.trans HR7.out.kept).mono (fun k _ hk => .inl hk), _, _, HR7.out.rd⟩
    case rest =>
      have hrR : r = R.then fun z => (pMust [62] z.2.1 z.2.2).then fun u => (pInside items deep ns ⟨nm, parent, z.1, at2, 0, 0⟩ u.1 u.2).then fun x => (pMust ([60, 47] ++ nm ++ [62]) x.2.1 x.2.2).then fun y => .ok (x.1, y.1, y.2) := by rw [← HRR.out]; exact S2.out.2 rfl
      rcases hcut with ⟨⟨f, at', hRb, hfe, hwk, hkd⟩, av, hnode⟩ | ⟨al, at', av, hL, hRok⟩
      · have hfe' : ((f.err : Int) == 0) = false := by simp; omega
        have hrb : r = .bad f := by rw [hrR, hRb]; rfl
        clear hrR hRb
        go_wp2_with fail
        refine (need_dead [62] _ _ _ _ _ _ hwk hfe (by decide)).mono ?_
        rintro e w4 ⟨rfl, n4, rfl⟩
        subst hrb
        go_wp2_with (go_at_call 22; refine (ok_is false _ _ _ _ _ _ (hwk.drewN n4) hfe').mono ?_; rintro e w8 ⟨rfl, rfl⟩)
        go_end0
        exact ⟨rfl, ((K2.out.trans hkd).drewN n4).mono (fun k _ hk => .inl hk), _, _, hwk.drewN n4⟩
      · have HL := Lib.hid hL
        have S5 : Hid (St r good ((pMust [62] (s.drop at') at').then fun u => (pInside items deep ns ⟨nm, parent, al, at2, 0, 0⟩ u.1 u.2).then fun x => (pMust ([60, 47] ++ nm ++ [62]) x.2.1 x.2.2).then fun y => .ok (x.1, y.1, y.2))) := Lib.hid ⟨fun hh => absurd rfl hh, fun _ => by rw [hrR, hRok]; rfl⟩
        have hge : at2 ≤ at' := pAttrs_pos _ _ _ _ _ _ _ (HRR.out.trans hRok)
        clear hL hRok hrR
        go_wp2_with fail
        refine (need_gen [62] _ b s at' good _ HL.out.rd (fun _ => rfl) (by decide) (by simp)).mono ?_
        rintro e w6 ⟨rfl, hk6, f6, at6, hr6, hg6, hs6⟩
        have S6 := Lib.hid (S5.out.step hs6.out)
        have hbn' : ¬ nb = b := by omega
        by_cases hf6 : f6.err = 0
        · obtain rfl := hg6 hf6
          have hE := S6.out.2 rfl
          have h6 : Wk w6 base b s at6 (.slice vo ns.length vc) ns := (H.out.kept ((K2.out.trans HL.out.kept).trans hk6) hr6)
          have hn6 := hk6.heap hbn' HL.out.node
          have ho6 := owns_kept HL.out.own hk6 (fun k hk => by have := (HL.out.own.lt k hk).1; omega)
          have c4 := h6.rd.c4
          have f4 := h6.rd.free 4
          have z0 := cellIn hn6 0 rfl
          have z1 := cellIn hn6 1 rfl
          have z2 := cellIn hn6 2 rfl
          have z3 := cellIn hn6 3 rfl
          have z4 := cellIn hn6 4 rfl
          have z5 := cellIn hn6 5 rfl
          obtain ⟨avs6, hav6, how6, hat6⟩ := h6.nodes
          have hbs6 := h6.hbase
          have hlt6 : at' < at6 := by
            rcases hs6.out.2 rfl with ⟨_, h⟩ | ⟨h, _⟩
            · unfold pMust at h
              split at h
              · simp only [Ans.ok.injEq, Prod.mk.injEq, List.length_cons, List.length_nil] at h; omega
              · cases h
            · exact absurd rfl h
          have H6 := Lib.hid h6
          have HE6 := Lib.hid hE
          have HN6 := Lib.hid hn6
          have HO6 := Lib.hid ho6
          have HAV := Lib.hid hav6
          have HAT := Lib.hid hat6
          have HK6 := Lib.hid ((K2.out.trans HL.out.kept).trans hk6)
          have hbl6 := hr6.lt
          clear h6 hE hn6 ho6 hk6 hr6 hav6 hat6 hs6 hg6 S6 S5 hf6
          obtain ⟨j0, hj0, hy0, hy1, hy2⟩ := info_parts info_node'
          have hn119 : ns.length + 1 ≤ 120 := by
            simp at e8; omega
          have h63 : ns.length + 1 ≤ maxLen := by unfold maxLen; omega
          have hav1 : av.oneCell' = true := by
            rcases HO6.out.2 with ⟨rfl, _⟩ | ⟨g, cap, cur, rfl, _⟩ <;> rfl
          have hone : ∀ u ∈ nodeCells ⟨nm, parent, al, at2, 0, 0⟩ av, u.oneCell' = true := by
            intro u hu
            simp only [nodeCells, List.mem_cons, List.not_mem_nil, or_false] at hu
            rcases hu with rfl | rfl | rfl | rfl | rfl | rfl <;> first | exact hav1 | rfl
          have hvb : ∀ k, (Value.slice vo ns.length vc).ownBlock = some k → k ≠ b := fun k hk => by
            have := (how6.lt k hk).1; omega
          have hbno : some b ≠ (Value.slice vo ns.length vc).ownBlock := fun hx => hvb b hx.symm rfl
          have HVB := Lib.hid hvb
          have HBNO := Lib.hid hbno
          clear hvb hbno
          have hvnb : ∀ k, (Value.slice vo ns.length vc).ownBlock = some k → k < nb := fun k hk => by
            obtain ⟨_, _, how2, _⟩ := H.out.nodes
            have h1 := (how2.lt k hk).2
            have h2 := K2.out.size
            have h3 := HNB.out
            omega
          have hao : ∀ k, av.ownBlock = some k → k ≠ b ∧ (Value.slice vo ns.length vc).ownBlock ≠ some k ∧ k < w6.heap.size := fun k hk => by
            have hl := HO6.out.lt k hk
            refine ⟨by omega, fun he => ?_, hl.2⟩
            have := hvnb k he; omega
          have HAO := Lib.hid hao
          have HVN := Lib.hid hvnb
          have HHB := HNB.out
          clear hao hvnb
          go_wp2_with (go_at_call 22; refine (ok_is true _ _ _ _ _ _ H6.out.rd rfl).mono ?_; rintro e w8 ⟨rfl, rfl⟩)
          go_cut [] (fun wx => ∃ gg cap, Wk wx base b s at6 (.slice (some ⟨gg, 0, none⟩) (ns.length + 1) cap) (ns ++ [⟨nm, parent, al, at2, 0, 0⟩]) ∧ Kept (RdrS b (.slice vo ns.length vc)) w8 wx ∧
            ((Value.slice vo ns.length vc).ownBlock = some gg ∨ w8.heap.size ≤ gg))
          case first =>
            go_region_law (refine step_append_lies _ (by rfl) _ _ _ (by rfl) base 35 j0 _ 6 72 Try.underlying22 hj0 hy0 hy1 hy2 rfl (by omega) (.slice vo ns.length vc) ns.length _ (by rfl) ((how6.alloc _).drew) ⟨w8.heap.size, 0, none⟩ 1 1 (nodeCells ⟨nm, parent, al, at2, 0, 0⟩ av) (by rfl) (by rfl) (World.news_of_block (cs := #[.string (str nm), .int .i64 parent, av, .int .i64 (at2 : Int), .int .i64 0, .int .i64 0]) (t := 35) (fr := (0, 0)) (heap_alloc_new w8 _)) hone (by omega) h63 (by omega) (by simp; omega) (w8.heap.size + 1) (by simp) ?_; intro gg cap w7 hown7 hgrow7 hat7 hlt7; have d2 := (hgrow7.cell_far ⟨b, 4, none⟩ (by simp; omega) HBNO.out).trans (cell_alloc c4 _); have g2 := (hgrow7.frozen_far ⟨b, 4, none⟩ (by simp; omega) HBNO.out).trans (frozen_alloc' (by show b < _; omega) f4 _))
            all_goals
              go_wp2_with fail
              go_meet
              case rel =>
                obtain ⟨h8, hk8⟩ := push_wk (n := ⟨nm, parent, al, at2, 0, 0⟩) (av := av) H6.out hn119 HAV.out HAT.out (attrsAt_of_owns HO6.out) HAO.out hown7 ⟨hgrow7.os, hgrow7.tape, hgrow7.output, hgrow7.size, hgrow7.block⟩ HVB.out
                  (hat7.imp id (fun h => by omega))
                exact ⟨gg, cap, h8, hk8, hat7.imp id (fun h => by omega)⟩
          case rest => as_aux_lemma =>
            obtain ⟨gg, cap, h8, hk8, hgg⟩ := hcut
            have hnr : ¬ RdrS b (.slice vo ns.length vc) nb := fun hs => by
              rcases hs with hs | hs
              · exact hbn' hs
              · have := HVN.out nb hs; omega
            have hn8 := hk8.heap hnr HN6.out
            have hgv : ∀ k, (Value.slice (some ⟨gg, 0, none⟩) (ns.length + 1) cap).ownBlock = some k → (Value.slice vo ns.length vc).ownBlock = some k ∨ w.heap.size ≤ k := fun k hk => by
              simp only [Value.ownBlock, Option.some.injEq] at hk
              subst hk
              rcases hgg with h | h
              · exact .inl h
              · have := HK6.out.size; exact .inr (by omega)
            have q0 := cellIn hn8 0 rfl
            have H8 := Lib.hid h8
            have HN8 := Lib.hid hn8
            have HK8 := Lib.hid ((HK6.out.mono (T := RdrS b (.slice vo ns.length vc)) (fun k _ hk => .inl hk)).trans hk8)
            have HGV := Lib.hid hgv
            have hnl6 := ltIn HN6.out
            clear h8 hn8 hk8 z0 z1 z2 z3 z4 z5 c4 f4 hgv how6 hone hav1
            go_upto_region 35 with fail
            go_cut [196] (fun c wx => wx = wc ∧ c = .bool (nm == styleName))
            case first =>
              go_wp2_with fail
              go_meet
              case rel => exact ⟨rfl, rfl⟩
            obtain ⟨rfl, rfl⟩ := hcut
            go_upto_if 196 with fail
            go_cut [] (fun wx => ∃ (f : Flt) (at9 : Nat) (v9 : Value) (ns9 : List PNode), WkAt wx b s at9 f v9 ∧ Hid (Kept (RdrS b (.slice vo ns.length vc)) w wx) ∧ wx.cell? ⟨nb, 0, none⟩ = some (.string (str nm)) ∧
              (f.err = 0 → f = good ∧ Hid (Wk wx base b s at9 v9 ns9) ∧ ∀ k, v9.ownBlock = some k → (Value.slice vo ns.length vc).ownBlock = some k ∨ w.heap.size ≤ k) ∧
              Hid (St r f ((pMust ([60, 47] ++ nm ++ [62]) (s.drop at9) at9).then fun y => .ok (ns9, y.1, y.2))))
            case first => as_aux_lemma =>
              have hnbg : ¬ nb = gg := by
                rcases hgg with h | h
                · have := HVN.out _ h; omega
                · omega
              by_cases hst : nm = styleName
              · have e1 : (nm == styleName) = true := by rw [hst]; rfl
                rw [e1]
                have HST := Lib.hid hst
                have c0 := H8.out.rd.c0
                have c1 := H8.out.rd.c1
                have f1 := H8.out.rd.free 1
                have hl8 := H8.out.rd.2.1
                have hm8 := H8.out.rd.2.2
                clear hst
                go_wp2_with fail
                cases hf : findSub styleEnd (s.drop at6) with
                | none =>
                  refine (find_any styleEnd none _ b s at6 good _ H8.out.rd (by decide) (by decide) (by unfold absFind; rw [hf]; rfl)).mono ?_
                  rintro e w9 ⟨rfl, rfl⟩
                  have hr0 : r = .bad ⟨2, s.length⟩ := by
                    rw [HE6.out]; unfold pInside; rw [if_pos HST.out, hf, List.length_drop]
                    show Ans.bad _ = _
                    rw [show at6 + (s.length - at6) = s.length from by omega]
                  go_wp2_with (go_at_call 23; refine (stop_good 2 s.length _ _ _ _ _ _ H8.out.rd rfl).mono ?_; rintro e w10 ⟨rfl, hk10, hr10⟩)
                  subst hr0
                  go_end0
                  exact ⟨rfl, HK8.out.trans (hk10.mono (T := RdrS b (.slice vo ns.length vc)) (fun k _ hk => .inl hk)), _, _, hr10⟩
                | some e =>
                  have hfl := findSub_le _ _ _ hf
                  rw [List.length_drop] at hfl
                  have hsl : styleEnd.length = 8 := rfl
                  rw [hsl] at hfl
                  refine (find_some styleEnd (at6 + e) _ b s at6 good _ H8.out.rd (by decide) (by decide) (by unfold absFind; rw [hf]; rfl)).mono ?_
                  rintro e2 w9 ⟨rfl, rfl⟩
                  have HF := Lib.hid hf
                  clear hf
                  have c4 := H8.out.rd.c4
                  obtain ⟨⟨i4, hi4⟩, ⟨i5, hi5⟩, g4, g5, hset⟩ := inner_wk H8.out (at6 : Int) ((at6 + e : Nat) : Int)
                  have hbg : ¬ b = gg := by
                    obtain ⟨_, _, how, _⟩ := H8.out.nodes
                    have := (how.lt gg rfl).1; omega
                  have hbg' : ¬ gg = b := fun h => hbg h.symm
                  have hb1 : (ns.length : Int) < ((ns.length + 1 : Nat) : Int) := by omega
                  have HSET := Lib.hid hset
                  clear hset
                  go_wp2_with fail
                  go_region
                  go_wp2_with fail
                  have hr9 : Wk (((w9.setCell ⟨gg, ns.length * 6 + 4, none⟩ (.int .i64 (at6 : Int))).setCell ⟨gg, ns.length * 6 + 4 + 1, none⟩ (.int .i64 ((at6 : Int) + (e : Int)))).setCell ⟨b, 1, none⟩ (.int .i64 ((at6 : Int) + (e : Int)))).drew base b s (at6 + e)
                      (.slice (some ⟨gg, 0, none⟩) (ns.length + 1) cap) (ns ++ [{ (⟨nm, parent, al, at2, 0, 0⟩ : PNode) with inF := (at6 : Int), inT := ((at6 + e : Nat) : Int) }]) :=
                    (Wk.set HSET.out (a' := at6 + e) (by simp) (by omega)).quiet ⟨1, rfl⟩
                  have hkx : Kept (fun k => k = b ∨ k = gg) w9 (((w9.setCell ⟨gg, ns.length * 6 + 4, none⟩ (.int .i64 (at6 : Int))).setCell ⟨gg, ns.length * 6 + 4 + 1, none⟩ (.int .i64 ((at6 : Int) + (e : Int)))).setCell ⟨b, 1, none⟩ (.int .i64 ((at6 : Int) + (e : Int)))).drew :=
                    ((((Kept.refl (fun k => k = b ∨ k = gg) w9).setCell (p := ⟨gg, _, none⟩) (.inl (.inr rfl)) _).setCell (p := ⟨gg, _, none⟩) (.inl (.inr rfl)) _).setCell (p := ⟨b, 1, none⟩) (.inl (.inl rfl)) _).drew
                  have hkk := HK8.out.trans' hkx (fun i hi hs => by
                    rcases hs with hs | hs
                    · exact .inl hs
                    · rcases HGV.out i (by rw [hs]; rfl) with h | h
                      · exact .inr h
                      · omega)
                  have hq9 := cellIn (hkx.heap (fun hs => by
                    rcases hs with hs | hs
                    · exact hbn' hs
                    · exact hnbg hs) HN8.out) 0 rfl
                  have hE := HE6.out
                  unfold pInside at hE
                  rw [if_pos HST.out, HF.out] at hE
                  simp only [Ans.ok_then, List.drop_drop] at hE
                  revert hr9 hkk hq9
                  clear hkx
                  generalize World.drew (World.setCell _ _ _) = w10
                  intro hr9 hkk hq9
                  go_meet
                  case rel => exact ⟨good, at6 + e, _, _, hr9.rd, Lib.hid hkk, hq9, fun _ => ⟨rfl, Lib.hid hr9, HGV.out⟩, Lib.hid ⟨fun hh => absurd rfl hh, fun _ => hE⟩⟩
              · have e1 : (nm == styleName) = false := by rw [beq_eq_false_iff_ne]; exact hst
                rw [e1]
                have HNS := Lib.hid hst
                clear hst
                go_wp2_with fail
                have hIC := HI.out (ns.length : Int) (deep + 1) (ns ++ [⟨nm, parent, al, at2, 0, 0⟩]) at6 _ _ (by
                  have h4 := H8.out.rd.2.1
                  omega) (by simp at hdd; omega) H8.out
                rw [show (((deep + 1 : Nat)) : Int) = (deep : Int) + 1 from by omega] at hIC
                have hE := HE6.out
                unfold pInside at hE
                rw [if_neg HNS.out] at hE
                obtain ⟨ans, hans⟩ : ∃ ans, items (ns.length : Int) (deep + 1) (ns ++ [⟨nm, parent, al, at2, 0, 0⟩]) (s.drop at6) at6 = ans := ⟨_, rfl⟩
                have HANS := Lib.hid hans
                rw [hans] at hE hIC
                have HE7 := Lib.hid hE
                clear hE hans
                refine hIC.mono ?_
                clear hIC
                cases ans with
                | bad f0 =>
                  rintro e w9 ⟨rfl, hk9, at9, v9, hr9⟩
                  have hfe : f0.err ≠ 0 := HNBI.out _ _ _ _ _ _ HANS.out
                  have HK9 := Lib.hid (HK8.out.trans' hk9 (fun i hi hs => by
                    rcases hs with hs | hs
                    · exact .inl hs
                    · rcases HGV.out i hs with h | h
                      · exact .inr h
                      · omega))
                  have hq9 := cellIn (hk9.heap (fun hs => by
                    rcases hs with hs | hs
                    · exact hbn' hs
                    · simp only [Value.ownBlock, Option.some.injEq] at hs; exact hnbg hs.symm) HN8.out) 0 rfl
                  have hE9 := HE7.out
                  clear hk9
                  go_wp2_with fail
                  go_meet
                  case rel => exact ⟨f0, at9, v9, [], hr9, HK9, hq9, fun hh => absurd hh hfe, Lib.hid ⟨fun _ => by rw [hE9]; rfl, fun hh => absurd hh hfe⟩⟩
                | ok y =>
                  obtain ⟨ns9, l9, at9⟩ := y
                  rintro e w9 ⟨v9, rfl, hk9, hr9, rfl, hgv9⟩
                  have HK9 := Lib.hid (HK8.out.trans' hk9 (fun i hi hs => by
                    rcases hs with hs | hs
                    · exact .inl hs
                    · rcases HGV.out i hs with h | h
                      · exact .inr h
                      · omega))
                  have hq9 := cellIn (hk9.heap (fun hs => by
                    rcases hs with hs | hs
                    · exact hbn' hs
                    · simp only [Value.ownBlock, Option.some.injEq] at hs; exact hnbg hs.symm) HN8.out) 0 rfl
                  have hE9 := HE7.out
                  have hgg9 : ∀ k, v9.ownBlock = some k → (Value.slice vo ns.length vc).ownBlock = some k ∨ w.heap.size ≤ k := fun k hk => by
                    rcases hgv9 k hk with h | h
                    · exact HGV.out k h
                    · have := HK8.out.size; exact .inr (by omega)
                  clear hk9 hgv9
                  go_wp2_with fail
                  go_meet
                  case rel => exact ⟨good, at9, v9, ns9, hr9.rd, HK9, hq9, fun _ => ⟨rfl, Lib.hid hr9, hgg9⟩, Lib.hid ⟨fun hh => absurd rfl hh, fun _ => hE9⟩⟩
            case rest => as_aux_lemma =>
              obtain ⟨f, at9, v9, ns9, hr9, HK9, q9, hwk9, SR⟩ := hcut
              have HR9 := Lib.hid hr9
              have HW9 := Lib.hid hwk9
              clear hr9 hwk9
              go_wp2_with fail
              have hword : ([60, 47] ++ nm ++ [62] : B) = 60 :: 47 :: (nm ++ [62]) := rfl
              have SR' := SR.out
              rw [hword] at SR'
              have SR2 := Lib.hid SR'
              clear SR SR' hword
              refine (need_gen (60 :: 47 :: (nm ++ [62])) _ b s at9 f v9 HR9.out (fun hh => (HW9.out hh).1) (by simp; omega) (by simp)).mono ?_
              rintro e w10 ⟨rfl, hk10, f10, at10, hr10, hg10, hs10⟩
              have SF := Lib.hid (St.step (k := fun y => .ok (ns9, y.1, y.2)) SR2.out hs10.out)
              have HK10 := Lib.hid hk10
              have HR10 := Lib.hid hr10
              have HS10 := Lib.hid hs10
              clear hk10 hr10 hs10 SR2
              go_wp2_with fail
              go_end0
              by_cases hf : f10.err = 0
              · have hf9 : f.err = 0 := by
                  refine Classical.byContradiction fun hn => ?_
                  rw [HS10.out.out.1 hn] at hf
                  exact hn hf
                obtain ⟨rfl, hw, hgv⟩ := HW9.out hf9
                obtain rfl : r = .ok (ns9, s.drop at10, at10) := SF.out.2 hf
                obtain rfl := hg10 hf
                exact ⟨v9, rfl, HK9.out.trans (HK10.out.mono (T := RdrS b (.slice vo ns.length vc)) (fun k _ hk => .inl hk)), hw.out.kept HK10.out HR10.out, rfl, hgv⟩
              · obtain rfl : r = .bad f10 := SF.out.1 hf
                exact ⟨rfl, HK9.out.trans (HK10.out.mono (T := RdrS b (.slice vo ns.length vc)) (fun k _ hk => .inl hk)), _, _, HR10.out⟩
        · have hfe' : ((f6.err : Int) == 0) = false := by simp; omega
          obtain rfl : r = .bad f6 := S6.out.1 hf6
          go_wp2_with (go_at_call 22; refine (ok_is false _ _ _ _ _ _ hr6 hfe').mono ?_; rintro e w8 ⟨rfl, rfl⟩)
          go_end0
          exact ⟨rfl, ((K2.out.trans HL.out.kept).trans hk6).mono (fun k _ hk => .inl hk), _, _, hr6⟩
  · have hfe : ((f2.err : Int) == 0) = false := by simp; omega
    refine (ok_is false _ _ _ _ _ _ (H2.out.alloc _) hfe).mono ?_
    rintro e w3 ⟨rfl, rfl⟩
    obtain rfl : r = .bad f2 := S2.out.1 hf2
    go_wp2_with fail
    go_end0
    exact ⟨rfl, (K2.out.mono (fun k _ hk => .inl hk)).alloc _, _, _, H2.out.alloc _⟩

end Go.Proofs.Ytplbdlgmjehckaa
