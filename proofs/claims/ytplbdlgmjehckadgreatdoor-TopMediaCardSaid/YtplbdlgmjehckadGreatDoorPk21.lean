/-
  Lemmas for the claims of this seat: the program's functions walked, and plain laws. In this order: PgElem.
-/
import Derived.Test.YtplbdlgmjehckadGreatDoorPk20
import Derived.Deep.RegionHeld2
import Derived.Deep.RegionHeld3
import Derived.Deep.AppendLies
import Derived.Deep.LoopGhost
namespace Go.Proofs.YtplbdlgmjehckadGreatDoor
open Go.RowKit
set_option linter.unusedVariables false
set_option linter.unusedSimpArgs false
def NodesOwn (w : World) (base b : Nat) (v : Value) (ns : List PNode) : Prop :=
  ∃ avs : List Value, avs.length = ns.length ∧ w.ownsRow base 56 6 v ns.length (List.zipWith nodeCells ns avs).flatten ∧
    ∀ (i : Nat) (n : PNode) (av : Value), ns[i]? = some n → avs[i]? = some av → AttrsAt w av n.attrs ∧ ∀ k, av.ownBlock = some k → k ≠ b ∧ v.ownBlock ≠ some k ∧ k < w.heap.size
def RdrS (b : Nat) (v : Value) : Nat → Prop := fun k => k = b ∨ v.ownBlock = some k
structure Rdr (w : World) (base b : Nat) (s : B) (at_ : Nat) (v : Value) (ns : List PNode) : Prop where
  rd : RdAt w b s at_ v
  nodes : NodesOwn w base b v ns
  hb : b < base
  hbase : base ≤ w.heap.size
  few : ns.length ≤ 120
  room : ∃ m, w.cell? ⟨0, 0, none⟩ = some (.int .i64 m)
  hb0 : 0 < b
theorem NodesOwn.kept {w w' : World} {base b : Nat} {v : Value} {ns : List PNode} (h : NodesOwn w base b v ns) (hk : Kept (· = b) w w') (hb : b < base) : NodesOwn w' base b v ns := by
  obtain ⟨avs, h1, h2, h3⟩ := h
  refine ⟨avs, h1, ?_, fun i n av hn ha => ?_⟩
  · refine ⟨h2.1, ?_⟩
    rcases h2.2 with x | ⟨g, cap, cur, hv, hg, hh, rest⟩
    · exact .inl x
    · exact .inr ⟨g, cap, cur, hv, hg, hk.heap (by omega) hh, rest⟩
  · obtain ⟨h4, h5⟩ := h3 i n av hn ha
    exact ⟨RowsAt.kept h4 hk (fun k hk => (h5 k hk).1), fun k hk' => ⟨(h5 k hk').1, (h5 k hk').2.1, Nat.lt_of_lt_of_le (h5 k hk').2.2 hk.size⟩⟩
theorem Rdr.kept {w w' : World} {base b : Nat} {s : B} {a a' : Nat} {v : Value} {ns : List PNode} (h : Rdr w base b s a v ns) (hk : Kept (· = b) w w') (hr : RdAt w' b s a' v) : Rdr w' base b s a' v ns :=
  ⟨hr, h.nodes.kept hk h.hb, h.hb, Nat.le_trans h.hbase hk.size, h.few, h.room.imp fun m hm => hk.cell (by have := h.hb0; show ¬ (0 = b); omega) hm, h.hb0⟩
def ItemsEnds (w : World) (base b : Nat) (s : B) (v : Value) (r : Ans (List PNode × B × Nat)) (e : Ending) (w' : World) : Prop :=
  match r with
  | .bad f => e = thrown f ∧ Kept (RdrS b v) w w'
  | .ok (ns', l', at') => ∃ v', e = .returned (.tuple #[]) ∧ Kept (RdrS b v) w w' ∧ Rdr w' base b s at' v' ns' ∧ l' = s.drop at' ∧ ∀ k, v'.ownBlock = some k → v.ownBlock = some k ∨ w.heap.size ≤ k
theorem Rdr.quiet {w w' : World} {base b : Nat} {s : B} {a : Nat} {v : Value} {ns : List PNode} (h : Rdr w base b s a v ns) (hq : Qt w w') : Rdr w' base b s a v ns := by
  obtain ⟨n, rfl⟩ := hq
  exact ⟨h.rd, h.nodes, h.hb, h.hbase, h.few, h.room, h.hb0⟩
theorem Rdr.set {w : World} {base b : Nat} {s : B} {a a' : Nat} {v : Value} {ns : List PNode} (h : Rdr w base b s a v ns) {x : Int} (hx : x = (a' : Int)) (hl : a' ≤ s.length) :
    Rdr (w.setCell ⟨b, 1, none⟩ (.int .i64 x)) base b s a' v ns := h.kept ((Kept.refl (· = b) w).setCell (p := ⟨b, 1, none⟩) (.inl rfl) _) (h.rd.set hx hl)
theorem Rdr.c0 {w : World} {base b : Nat} {s : B} {a : Nat} {v : Value} {ns : List PNode} (h : Rdr w base b s a v ns) : w.cell? ⟨b, 0, none⟩ = some (.string (str s)) := h.rd.c0
theorem push_node {w w7 : World} {base b gg cap : Nat} {s : B} {a : Nat} {v av : Value} {ns : List PNode} {n : PNode} {avs : List Value} {o : Obj} (h : Rdr w base b s a v ns) (h119 : ns.length + 1 ≤ 120)
    (hav : avs.length = ns.length) (hat : ∀ (i : Nat) (n : PNode) (av : Value), ns[i]? = some n → avs[i]? = some av → AttrsAt w av n.attrs ∧ ∀ k, av.ownBlock = some k → k ≠ b ∧ v.ownBlock ≠ some k ∧ k < w.heap.size)
    (ha : AttrsAt w av n.attrs) (hao : ∀ k, av.ownBlock = some k → k ≠ b ∧ v.ownBlock ≠ some k ∧ k < w.heap.size)
    (hown : w7.ownsRow base 56 6 (.slice (some ⟨gg, 0, none⟩) (ns.length + 1) cap) (ns.length + 1) ((List.zipWith nodeCells ns avs).flatten ++ nodeCells n av))
    (hgrow : (w.alloc o).grownBy w7 v.ownBlock) (hvb : ∀ k, v.ownBlock = some k → k ≠ b) (hg : v.ownBlock = some gg ∨ w.heap.size ≤ gg) :
    Rdr (w7.setCell ⟨b, 2, none⟩ (.slice (some ⟨gg, 0, none⟩) (ns.length + 1) cap)) base b s a (.slice (some ⟨gg, 0, none⟩) (ns.length + 1) cap) (ns ++ [n]) ∧
    Kept (RdrS b v) w (w7.setCell ⟨b, 2, none⟩ (.slice (some ⟨gg, 0, none⟩) (ns.length + 1) cap)) := by
  have hb := h.hb
  have hbs := h.hbase
  have hk7 : Kept (fun k => v.ownBlock = some k) w w7 := ((Kept.refl _ w).alloc o).grown hgrow (fun k hk => .inl hk)
  have hr7 := h.rd.kept hk7 (fun hh => hvb b hh rfl)
  have hk : Kept (RdrS b v) w (w7.setCell ⟨b, 2, none⟩ (.slice (some ⟨gg, 0, none⟩) (ns.length + 1) cap)) :=
    (hk7.mono (fun k _ hk => .inr hk)).setCell (p := ⟨b, 2, none⟩) (.inl (.inl rfl)) _
  have hown8 := ownsRow_setCell_below hown (a := ⟨b, 2, none⟩) (by show b < base; omega) (.slice (some ⟨gg, 0, none⟩) (ns.length + 1) cap)
  have new : ∀ {x : Value} {al : List PAttr}, AttrsAt w x al → (∀ k, x.ownBlock = some k → k ≠ b ∧ v.ownBlock ≠ some k ∧ k < w.heap.size) →
      AttrsAt (w7.setCell ⟨b, 2, none⟩ (.slice (some ⟨gg, 0, none⟩) (ns.length + 1) cap)) x al ∧ ∀ k, x.ownBlock = some k → k ≠ b ∧ (Value.slice (some ⟨gg, 0, none⟩) (ns.length + 1) cap).ownBlock ≠ some k ∧
        k < (w7.setCell ⟨b, 2, none⟩ (.slice (some ⟨gg, 0, none⟩) (ns.length + 1) cap)).heap.size := by
    intro x al h1 h2
    refine ⟨RowsAt.kept h1 hk (fun k hk hs => ?_), fun k hk' => ⟨(h2 k hk').1, ?_, Nat.lt_of_lt_of_le (h2 k hk').2.2 hk.size⟩⟩
    · rcases hs with hs | hs
      · exact (h2 k hk).1 hs
      · exact (h2 k hk).2.1 hs
    · intro he
      simp only [Value.ownBlock, Option.some.injEq] at he
      subst he
      rcases hg with hg | hg
      · exact (h2 _ hk').2.1 hg
      · have := (h2 _ hk').2.2; omega
  refine ⟨⟨⟨?_, hr7.2⟩, ⟨avs ++ [av], by simp [hav], ?_, ?_⟩, hb, Nat.le_trans hbs hk.size, by simpa using h119, ?_, h.hb0⟩, hk⟩
  · have := setIn hr7.1 2 (.slice (some ⟨gg, 0, none⟩) (ns.length + 1) cap)
    simpa using this
  · have e : (List.zipWith nodeCells (ns ++ [n]) (avs ++ [av])).flatten = (List.zipWith nodeCells ns avs).flatten ++ nodeCells n av := by
      rw [List.zipWith_append (by rw [hav])]; simp
    rw [e]; simpa using hown8
  · intro i m x hm hx
    by_cases hi : i < ns.length
    · rw [List.getElem?_append_left hi] at hm
      rw [List.getElem?_append_left (by rw [hav]; exact hi)] at hx
      exact new (hat i m x hm hx).1 (hat i m x hm hx).2
    · have hi2 := (List.getElem?_eq_some_iff.1 hm).1
      simp at hi2
      have : i = ns.length := by omega
      subst this
      simp at hm
      rw [← hav] at hx
      simp at hx
      subst hm; subst hx
      exact new ha hao
  · exact h.room.imp fun m hm => hk.cell (fun hs => by
      rcases hs with hs | hs
      · have := h.hb0; have : (0 : Nat) = b := hs; omega
      · obtain ⟨_, _, how, _⟩ := h.nodes
        have := (how.lt 0 hs).1; omega) hm
theorem zip_len {ns : List PNode} {avs : List Value} (h : avs.length = ns.length) : (List.zipWith nodeCells ns avs).flatten.length = ns.length * 6 := by
  induction ns generalizing avs with
  | nil => simp
  | cons n ns ih =>
    cases avs with
    | nil => simp at h
    | cons a avs =>
      simp only [List.length_cons, Nat.succ.injEq, Nat.add_right_cancel_iff] at h
      have := ih h
      simp only [List.zipWith_cons_cons, List.flatten_cons, List.length_append, this, List.length_cons]
      simp [nodeCells]; omega
theorem inner_set {w : World} {base b gg cap : Nat} {s : B} {a : Nat} {ns : List PNode} {nd : PNode} (h : Rdr w base b s a (.slice (some ⟨gg, 0, none⟩) (ns.length + 1) cap) (ns ++ [nd])) (x y : Int) :
    (∃ u, w.cell? ⟨gg, ns.length * 6 + 4, none⟩ = some u) ∧ (∃ u, w.cell? ⟨gg, ns.length * 6 + 5, none⟩ = some u) ∧ w.frozen? ⟨gg, ns.length * 6 + 4, none⟩ = false ∧ w.frozen? ⟨gg, ns.length * 6 + 5, none⟩ = false ∧
    Rdr ((w.setCell ⟨gg, ns.length * 6 + 4, none⟩ (.int .i64 x)).setCell ⟨gg, ns.length * 6 + 5, none⟩ (.int .i64 y)) base b s a (.slice (some ⟨gg, 0, none⟩) (ns.length + 1) cap) (ns ++ [{ nd with inF := x, inT := y }]) := by
  obtain ⟨avs', hav', how', hat'⟩ := h.nodes
  have hn1 : (ns ++ [nd]).length = ns.length + 1 := by simp
  rw [hn1] at hav' how'
  obtain ⟨avs, av, rfl⟩ : ∃ avs av, avs' = avs ++ [av] := by
    have hne : avs' ≠ [] := by intro hh; rw [hh] at hav'; simp at hav'
    exact ⟨avs'.dropLast, avs'.getLast hne, (List.dropLast_concat_getLast hne).symm⟩
  have hav : avs.length = ns.length := by simpa using hav'
  have e : ∀ m : PNode, (List.zipWith nodeCells (ns ++ [m]) (avs ++ [av])).flatten = (List.zipWith nodeCells ns avs).flatten ++ nodeCells m av := fun m => by
    rw [List.zipWith_append (by rw [hav])]; simp
  rw [e] at how'
  have hl := zip_len hav
  have hgb := (how'.lt gg rfl).1
  have hb := h.hb
  have hb0 := h.hb0
  have c4 := how'.cellAt (ns.length * 6 + 4) (by omega)
  have c5 := how'.cellAt (ns.length * 6 + 5) (by omega)
  rw [List.getElem?_append_right (by omega), hl, Nat.add_sub_cancel_left] at c4 c5
  have s1 := (how'.stored (ns.length * 6 + 4) (.int .i64 x)).1
  have s2 := (s1.stored (ns.length * 6 + 5) (.int .i64 y)).1
  have hk : Kept (· = gg) w ((w.setCell ⟨gg, ns.length * 6 + 4, none⟩ (.int .i64 x)).setCell ⟨gg, ns.length * 6 + 5, none⟩ (.int .i64 y)) :=
    ((Kept.refl (· = gg) w).setCell (p := ⟨gg, _, none⟩) (.inl rfl) _).setCell (p := ⟨gg, _, none⟩) (.inl rfl) _
  rw [List.set_append_right _ _ (by omega), hl, Nat.add_sub_cancel_left, List.set_append_right _ _ (by omega), hl, Nat.add_sub_cancel_left] at s2
  refine ⟨⟨_, c4⟩, ⟨_, c5⟩, how'.frozenAt _, how'.frozenAt _, ⟨h.rd.kept hk (by omega), ⟨avs ++ [av], by simp [hav], ?_, ?_⟩, hb, Nat.le_trans h.hbase hk.size, ?_, ?_, hb0⟩⟩
  · rw [e]
    simpa [nodeCells] using s2
  · intro i m z hm hz
    have old : ∀ m' : PNode, (ns ++ [nd])[i]? = some m' → m'.attrs = m.attrs → _ := fun m' hm' ha => hat' i m' z hm' hz
    have : ∃ m' : PNode, (ns ++ [nd])[i]? = some m' ∧ m'.attrs = m.attrs := by
      by_cases hi : i < ns.length
      · rw [List.getElem?_append_left hi] at hm ⊢
        exact ⟨m, hm, rfl⟩
      · have hi2 := (List.getElem?_eq_some_iff.1 hm).1
        simp at hi2
        have : i = ns.length := by omega
        subst this
        simp at hm ⊢
        subst hm; rfl
    obtain ⟨m', hm', ha⟩ := this
    obtain ⟨h1, h2⟩ := hat' i m' z hm' hz
    rw [ha] at h1
    refine ⟨RowsAt.kept h1 hk (fun k hk' hs => ?_), fun k hk' => ⟨(h2 k hk').1, (h2 k hk').2.1, Nat.lt_of_lt_of_le (h2 k hk').2.2 hk.size⟩⟩
    exact (h2 k hk').2.1 (by rw [hs]; rfl)
  · have := h.few; simpa using this
  · exact h.room.imp fun m hm => hk.cell (by show ¬ (0 = gg); omega) hm
theorem pElem_eq (items : Int → Nat → List PNode → B → Nat → Ans (List PNode × B × Nat)) (parent : Int) (deep : Nat) (ns : List PNode) (s : B) (at_ : Nat) (hd : deep ≤ 20) (hn : ns.length ≠ 120) :
    pElem items parent deep ns (s.drop at_) at_ =
    (if ([60] : B).isPrefixOf (s.drop at_) then (pName (s.drop (at_ + 1)) (at_ + 1)).then fun (nm, l2, at2) =>
      (pAttrs (l2.length + 1) [] l2 at2).then fun (al, l3, at3) =>
      (pMust [62] l3 at3).then fun (l4, at4) =>
      (pInside items deep ns ⟨nm, parent, al, at2, 0, 0⟩ l4 at4).then fun (ns2, l5, at5) =>
      (pMust ([60, 47] ++ nm ++ [62]) l5 at5).then fun (l6, at6) => .ok (ns2, l6, at6)
    else .bad ⟨2, at_⟩) := by
  unfold pElem pOpen
  rw [if_neg (by omega), if_neg hn]
  unfold pMust
  split
  · simp only [Ans.ok_then, List.length_singleton, List.drop_drop]
    cases pName (s.drop (at_ + 1)) (at_ + 1) with
    | bad f => rfl
    | ok x =>
      obtain ⟨nm, l2, at2⟩ := x
      simp only [Ans.ok_then]
      cases pAttrs (l2.length + 1) [] l2 at2 with
      | bad f => rfl
      | ok y =>
        obtain ⟨al, l3, at3⟩ := y
        simp only [Ans.ok_then]
        split <;> rfl
  · rfl
structure AttrLoop (w2 wr : World) (b nb : Nat) (s : B) (v : Value) (nm : B) (parent : Int) (at2 : Nat) (R : Ans (List PAttr × B × Nat)) (k : Nat) (al : List PAttr) (at' : Nat) (av : Value) : Prop where
  rd : RdAt wr b s at' v
  node : wr.heap[nb]? = some (.cells #[.string (str nm), .int .i64 parent, av, .int .i64 (at2 : Int), .int .i64 0, .int .i64 0] 56 (0, 0))
  own : wr.ownsRow (nb + 1) 77 4 av al.length (al.map attrCells).flatten
  few : al.length ≤ 8
  kept : Kept (· = b) w2 wr
  rest : ∃ f, (s.drop at').length < f ∧ pAttrs f al (s.drop at') at' = R
  num : k = s.length - at'
  le : at2 ≤ at'
theorem AttrLoop.quiet {w2 wr w' : World} {b nb : Nat} {s : B} {v : Value} {nm : B} {parent : Int} {at2 : Nat} {R : Ans (List PAttr × B × Nat)} {k : Nat} {al : List PAttr} {at' : Nat} {av : Value}
    (h : AttrLoop w2 wr b nb s v nm parent at2 R k al at' av) (hq : Qt wr w') : AttrLoop w2 w' b nb s v nm parent at2 R k al at' av := by
  obtain ⟨n, rfl⟩ := hq
  exact ⟨h.rd, h.node, h.own, h.few, h.kept.drewN n, h.rest, h.num, h.le⟩
theorem attr_sum (w : World) (b : Nat) (s : B) (at_ : Nat) (v vl : Value) (al : List PAttr) (h : RdAt w b s at_ v) (hal : AttrsAt w vl al) (hvb : ∀ k, vl.ownBlock = some k → k ≠ b)
    (hlt : at_ < s.length) (h8 : al.length ≤ 8) :
    Calls Tryz.prog 96 #[.pointer (some ⟨b, 0, none⟩), vl] w fun e w' => (∃ g, e = thrown g ∧ Kept (· = b) w w' ∧ Hid (pAttr al (s.drop at_) at_ = .bad g)) ∨
      (∃ a l' at', e = .returned (.agg #[.string (str a.name), .string (str a.val), .int .i64 a.lo, .int .i64 a.hi]) ∧ Kept (· = b) w w' ∧ RdAt w' b s at' v ∧ l' = s.drop at' ∧ Hid (pAttr al (s.drop at_) at_ = .ok (a, l', at'))) := by
  have := attr_any w b s at_ v vl al h hal hvb hlt h8
  cases hp : pAttr al (s.drop at_) at_ with
  | bad g => rw [hp] at this; exact this.mono fun e w' hh => .inl ⟨g, hh.1, hh.2, rfl⟩
  | ok x =>
    obtain ⟨a, l', at'⟩ := x
    rw [hp] at this
    exact this.mono fun e w' hh => .inr ⟨a, l', at', hh.1, hh.2.1, hh.2.2.1, hh.2.2.2, rfl⟩
theorem attr_rows {al : List PAttr} : ∀ r ∈ al.map attrCells, r.length = 4 := by
  intro r hr
  obtain ⟨a, _, rfl⟩ := List.mem_map.1 hr
  rfl
theorem attrsAt_of_owns {w : World} {base : Nat} {v : Value} {al : List PAttr} (h : w.ownsRow base 77 4 v al.length (al.map attrCells).flatten) : AttrsAt w v al :=
  rowsAt_of_owns attr_rows (by simp) h
theorem pName_ok {l nm l' : B} {at_ at' : Nat} (h : pName l at_ = .ok (nm, l', at')) : nm.length ≤ 20 ∧ nm = l.take nm.length ∧ at' = at_ + nm.length ∧ nm ≠ [] ∧ l' = l.drop nm.length := by
  unfold pName at h
  have hn := nameLen_le l
  split at h
  · cases h
  · split at h
    · cases h
    · cases h
      have hl : (l.take (nameLen l)).length = nameLen l := by simp; omega
      refine ⟨by omega, by rw [hl], by rw [hl], ?_, by rw [hl]⟩
      intro he; rw [he] at hl; simp at hl; omega
theorem pAttr_ok {al : List PAttr} {l l' : B} {at_ at' : Nat} {a : PAttr} (h : pAttr al l at_ = .ok (a, l', at')) : at_ < at' ∧ al.length ≠ 8 := by
  unfold pAttr at h
  cases h1 : pName (l.drop 1) (at_ + 1) with
  | bad f => rw [h1] at h; cases h
  | ok x =>
    obtain ⟨nm, l2, at2⟩ := x
    rw [h1] at h
    simp only [Ans.ok_then] at h
    have hn : at_ + 1 ≤ at2 := by
      unfold pName at h1
      split at h1
      · cases h1
      · split at h1
        · cases h1
        · cases h1; omega
    split at h
    · cases h
    · rename_i h8
      simp only [Bool.or_eq_true, not_or, beq_iff_eq] at h8
      refine ⟨?_, h8.2⟩
      unfold pMust at h
      split at h
      · simp only [Ans.ok_then] at h
        split at h
        · simp only [Ans.ok_then, Ans.ok.injEq, Prod.mk.injEq] at h
          obtain ⟨_, _, rfl⟩ := h
          omega
        · cases h
      · cases h
theorem pAttr_pos {al : List PAttr} {l l' : B} {at_ at' : Nat} {a : PAttr} (h : pAttr al l at_ = .ok (a, l', at')) : at_ < at' := (pAttr_ok h).1
theorem attr_round {w2 w3 w4 w5 : World} {b nb : Nat} {s : B} {v : Value} {nm : B} {parent : Int} {at2 : Nat} {R : Ans (List PAttr × B × Nat)} {gk : Nat} {al : List PAttr} {at' at4 : Nat} {av : Value} {a : PAttr} {f gg cap : Nat} {o : Obj}
    (hL : AttrLoop w2 w3 b nb s v nm parent at2 R gk al at' av) (hk4 : Kept (· = b) w3.drew w4) (hr4 : RdAt w4 b s at4 v) (hp2 : pAttr al (s.drop at') at' = .ok (a, s.drop at4, at4))
    (hR : ((pAttr al (s.drop at') at').then fun x => pAttrs f (al ++ [x.1]) x.2.1 x.2.2) = R) (hf : (s.drop at').length < f + 1)
    (hown5 : w5.ownsRow (nb + 1) 77 4 (.slice (some ⟨gg, 0, none⟩) (al.length + 1) cap) (al.length + 1) ((al.map attrCells).flatten ++ [.string (str a.name), .string (str a.val), .int .i64 a.lo, .int .i64 a.hi]))
    (hgrow : (w4.alloc o).grownBy w5 av.ownBlock) (hV : ∀ k, av.ownBlock = some k → k ≠ b) (hnb : w2.heap.size = nb) (hbn : ¬ b = nb) :
    AttrLoop w2 (w5.setCell ⟨nb, 2, none⟩ (.slice (some ⟨gg, 0, none⟩) (al.length + 1) cap)) b nb s v nm parent at2 R (s.length - at4) (al ++ [a]) at4 (.slice (some ⟨gg, 0, none⟩) (al.length + 1) cap) := by
  have hlt := hL.own.lt
  have hno : ¬ av.ownBlock = some nb := fun h => by have := (hlt nb h).1; omega
  have hk5 : Kept (fun k => av.ownBlock = some k) w4 w5 := ((Kept.refl _ w4).alloc o).grown hgrow (fun k hk => .inl hk)
  have h8 := (pAttr_ok hp2).2
  have hpos := pAttr_pos hp2
  have hn4 : w4.heap[nb]? = _ := hk4.heap (a := w3.drew) (fun h => hbn h.symm) hL.node
  refine ⟨(hr4.kept hk5 (fun h => hV b h rfl)).other hbn, ?_, ?_, ?_, ?_, ?_, rfl, by have := hL.le; omega⟩
  · have := setIn (hk5.heap hno hn4) 2 (.slice (some ⟨gg, 0, none⟩) (al.length + 1) cap)
    simpa using this
  · have := ownsRow_setCell_below hown5 (a := ⟨nb, 2, none⟩) (by show nb < nb + 1; omega) (.slice (some ⟨gg, 0, none⟩) (al.length + 1) cap)
    simpa [attrCells] using this
  · have := hL.few
    simp only [List.length_append, List.length_singleton]; omega
  · refine Kept.setCell (((hL.kept.drew.trans hk4).alloc o).grown hgrow (fun k hk => .inr ?_)) (.inr ?_) _
    · have := (hlt k hk).1; omega
    · show w2.heap.size ≤ nb; omega
  · refine ⟨f, ?_, ?_⟩
    · rw [List.length_drop] at hf ⊢
      have := hr4.2.1
      omega
    · rw [← hR, hp2]; rfl
theorem A.info77 : (Tryz.prog.info? 77).map (fun i => (i.zero, i.size, i.bytes)) = some (some (.agg #[.string ⟨#[]⟩, .string ⟨#[]⟩, .int .i64 0, .int .i64 0]), 4, 48) := by kernel_rfl
theorem A.info56 : (Tryz.prog.info? 56).map (fun i => (i.zero, i.size, i.bytes)) = some (some (.agg #[.string ⟨#[]⟩, .int .i64 0, .slice none 0 0, .int .i64 0, .int .i64 0, .int .i64 0]), 6, 72) := by kernel_rfl
set_option maxRecDepth 100000 in
set_option maxHeartbeats 3200000 in
theorem elem_any (items : Int → Nat → List PNode → B → Nat → Ans (List PNode × B × Nat)) (s : B) (base b F : Nat)
    (IH : ∀ (parent : Int) (deep : Nat) (ns : List PNode) (at_ : Nat) (v : Value) (w : World), s.length - at_ < F → deep ≤ 21 → Rdr w base b s at_ v ns →
      Calls Tryz.prog 37 #[.pointer (some ⟨b, 0, none⟩), .int .i64 parent, .int .i64 (deep : Int)] w (ItemsEnds w base b s v (items parent deep ns (s.drop at_) at_)))
    (parent : Int) (deep : Nat) (ns : List PNode) (at_ : Nat) (v : Value) (w : World) (hF : s.length - at_ ≤ F) (hdeep : deep ≤ 21) (h : Rdr w base b s at_ v ns) :
    Calls Tryz.prog 68 #[.pointer (some ⟨b, 0, none⟩), .int .i64 parent, .int .i64 (deep : Int)] w (ItemsEnds w base b s v (pElem items parent deep ns (s.drop at_) at_)) := by
  obtain ⟨r, HR⟩ : ∃ r, Hid (pElem items parent deep ns (s.drop at_) at_ = r) := ⟨_, rfl⟩
  rw [HR.out]
  have HI := Lib.hid IH
  have H := Lib.hid h
  have c2 := h.rd.c2
  have c1 := h.rd.c1
  have hfew := h.few
  have hb := h.hb
  have hbase := h.hbase
  obtain ⟨avs, hav, how, _⟩ := h.nodes
  obtain ⟨vo, vc, hv⟩ : ∃ vo vc, v = .slice vo ns.length vc := by
    rcases how.2 with ⟨rfl, hn⟩ | ⟨g, cap, cur, rfl, _⟩
    · exact ⟨none, 0, by rw [hn]⟩
    · exact ⟨_, cap, rfl⟩
  subst hv
  clear h IH hav how
  by_cases hd : 20 < deep
  · go_enter Tryz.func68, Tryz.ntmps68
    go_wp2_with (go_at_call 38; refine (fail_any 4 _ b s at_ _ H.out.rd).mono ?_; rintro e w4 ⟨rfl, hq4⟩)
    obtain rfl : r = .bad ⟨4, at_⟩ := by rw [← HR.out]; unfold pElem pOpen; rw [if_pos hd]; rfl
    exact ⟨rfl, rfl, hq4.kept _⟩
  by_cases hn : ns.length = 120
  · go_enter Tryz.func68, Tryz.ntmps68
    have e8 : ((ns.length : Int) == 120) = true := by simp; omega
    have HN := Lib.hid hn
    clear hn
    go_wp2_with (go_at_call 38; refine (fail_any 4 _ b s at_ _ H.out.rd).mono ?_; rintro e w4 ⟨rfl, hq4⟩)
    obtain rfl : r = .bad ⟨4, at_⟩ := by rw [← HR.out]; unfold pElem pOpen; rw [if_neg hd, if_pos HN.out]; rfl
    exact ⟨rfl, rfl, hq4.kept _⟩
  have e8 : ((ns.length : Int) == 120) = false := by simp; omega
  have hdd : decide ((20 : Int) < (deep : Int)) = false := by simp; omega
  have hE := HR.out
  rw [pElem_eq _ _ _ _ _ _ (by omega) hn] at hE
  have HE := Lib.hid hE
  clear hn hE
  go_enter Tryz.func68, Tryz.ntmps68
  go_wp2_with fail
  cases hm1 : ([60] : B).isPrefixOf (s.drop at_) with
  | false =>
    refine (must_bad [60] _ b s at_ _ H.out.rd hm1).mono ?_
    rintro e w1 ⟨rfl, hq1⟩
    obtain rfl : r = .bad ⟨2, at_⟩ := by rw [← HE.out, hm1]; rfl
    have HQ := Lib.hid hq1
    clear hq1 hm1
    go_wp2_with fail
    exact ⟨rfl, rfl, HQ.out.kept _⟩
  | true =>
    refine (must_ok [60] _ b s at_ _ H.out.rd hm1).mono ?_
    rintro e w1 ⟨rfl, hk1, hr1⟩
    have hE := HE.out
    rw [hm1, if_pos rfl] at hE
    have h1 := H.out.kept hk1 hr1
    have c1' := hr1.c1
    have c2' := hr1.c2
    have H1 := Lib.hid h1
    have HK1 := Lib.hid hk1
    have HE1 := Lib.hid hE
    clear hm1 hE hk1 hr1 h1 c1 c2 HE
    go_wp2_with fail
    cases hp1 : pName (s.drop (at_ + 1)) (at_ + 1) with
    | bad f =>
      refine (name_bad _ b s (at_ + 1) _ H1.out.rd hp1).mono ?_
      rintro e w2 ⟨rfl, hq⟩
      obtain rfl : r = .bad f := by rw [← HE1.out, hp1]; rfl
      have HQ := Lib.hid hq
      clear hq hp1
      go_wp2_with fail
      exact ⟨rfl, rfl, (HK1.out.trans (HQ.out.kept _)).mono (fun k _ hk => .inl hk)⟩
    | ok x =>
      obtain ⟨nm, l2, at2⟩ := x
      refine (name_ok _ b s (at_ + 1) _ H1.out.rd hp1).mono ?_
      rintro e w2 ⟨rfl, hk2, hr2, rfl⟩
      have hE := HE1.out
      rw [hp1] at hE
      simp only [Ans.ok_then] at hE
      have h2 := H1.out.kept hk2 hr2
      have HE2 := Lib.hid hE
      have c1'' := hr2.c1
      have H2 := Lib.hid h2
      have HK2 := Lib.hid (HK1.out.trans hk2)
      have HP1 := Lib.hid hp1
      clear hp1 hE hk2 hr2 h2 c1' c2' HE1
      have hbw := H2.out.rd.lt
      obtain ⟨R, HRR⟩ : ∃ R, Hid (pAttrs ((s.drop at2).length + 1) [] (s.drop at2) at2 = R) := ⟨_, rfl⟩
      obtain ⟨nb, HNB⟩ : ∃ nb, Hid (w2.heap.size = nb) := ⟨_, rfl⟩
      have hstart : AttrLoop w2 (w2.alloc (.cells #[.string (str nm), .int .i64 parent, .slice none 0 0, .int .i64 (at2 : Int), .int .i64 0, .int .i64 0] 56)) b nb s
          (.slice vo ns.length vc) nm parent at2 R (s.length - at2) [] at2 (.slice none 0 0) :=
        ⟨H2.out.rd.alloc _, by rw [← HNB.out]; exact newIn _ _, World.ownsRow_nil _ _ _ _, by simp, (Kept.refl _ _).alloc _, ⟨_, by omega, HRR.out⟩, rfl, Nat.le_refl _⟩
      have HS := Lib.hid hstart
      clear hstart
      go_wp2
      have hnb := HNB.out
      rw [hnb] at hbw ⊢
      clear hnb
      go_loopg [] (s.length - at2) (fun k wr => ∃ al at' av, AttrLoop w2 wr b nb s (.slice vo ns.length vc) nm parent at2 R k al at' av)
      case atStart => exact ⟨_, _, _, HS.out⟩
      case round =>
        obtain ⟨al, at', av, hL⟩ := hrel
        have HL := Lib.hid hL
        have c1 := hL.rd.c1
        have x2 := cellIn hL.node 2 rfl
        have y2 := freeIn hL.node 2
        clear hL
        go_wp2_with fail
        refine (is_any [32] _ b s at' _ HL.out.rd).mono ?_
        rintro e w3 ⟨rfl, hq3⟩
        have hL3 := HL.out.quiet hq3
        clear c1 x2 y2 hq3 HL
        have HL3 := Lib.hid hL3
        have x2 := cellIn hL3.node 2 rfl
        have y2 := freeIn hL3.node 2
        have hbn : ¬ b = nb := by omega
        have hbn' : ¬ nb = b := by omega
        have hnlt := ltIn hL3.node
        clear hL3
        cases hm2 : ([32] : B).isPrefixOf (s.drop at') with
        | true =>
          have hlt : at' < s.length := by
            have := (List.isPrefixOf_iff_prefix.1 hm2).length_le
            rw [List.length_drop] at this; simp at this; omega
          have hvb : ∀ k, av.ownBlock = some k → k ≠ b := fun k hk => by
            have := (HL3.out.own.lt k hk).1; omega
          obtain ⟨f, hf, hR⟩ := HL3.out.rest
          cases f with
          | zero => omega
          | succ f =>
            unfold pAttrs at hR
            rw [hm2, if_pos rfl] at hR
            have HR3 := Lib.hid hR
            have HV3 := Lib.hid hvb
            have h8 := HL3.out.few
            clear hm2 hR hvb
            have HC := Lib.hid (attr_sum w3.drew b s at' (.slice vo ns.length vc) av al HL3.out.rd (attrsAt_of_owns HL3.out.own) HV3.out hlt h8)
            have HB : Hid (∀ (g : Flt) (w4 : World), pAttr al (s.drop at') at' = .bad g → Kept (· = b) w3.drew w4 → ItemsEnds w base b s (.slice vo ns.length vc) r (thrown g) w4) := Lib.hid fun g w4 hp2 hk4 => by
              have hrb : r = .bad g := by
                rw [← HE2.out, HRR.out, ← HR3.out, hp2]; rfl
              rw [hrb]
              exact ⟨rfl, ((HK2.out.trans HL3.out.kept.drew).trans hk4).mono (fun k _ hk => .inl hk)⟩
            obtain ⟨i0, hi0, hz0, hz1, hz2⟩ := info_parts A.info77
            have h63 : al.length + 1 ≤ maxLen := by unfold maxLen; omega
            have HNO : Hid (some nb ≠ av.ownBlock) := Lib.hid fun hx => by
              have := (HL3.out.own.lt nb hx.symm).1
              omega
            go_wp2_with fail
            go_region_law
              (first
                | (go_simp; go_at_call 96; go_loud (refine HC.out.mono ?_; rintro e w4 (⟨g, rfl, hk4, hp2⟩ | ⟨a, l4, at4, rfl, hk4, hr4, rfl, hp2⟩); (exact ⟨rfl, HB.out g w4 hp2.out hk4⟩); have how4 := owns_kept (w := w3.drew) HL3.out.own hk4 HV3.out; have hz4 : w3.heap.size ≤ w4.heap.size := hk4.size; have x4 : w4.cell? ⟨nb, 2, none⟩ = some av := hk4.cell (a := w3.drew) hbn' x2; have y4 : w4.frozen? ⟨nb, 2, none⟩ = false := hk4.frozen (a := w3.drew) hbn' hnlt y2; have x4a : ∀ o, (w4.alloc o).cell? ⟨nb, 2, none⟩ = some av := fun o => cell_alloc x4 o; have y4a : ∀ o, (w4.alloc o).frozen? ⟨nb, 2, none⟩ = false := fun o => frozen_alloc' (by show nb < _; omega) y4 o))
                | (refine step_append_lies _ (by rfl) _ _ _ (by rfl) (nb + 1) 77 i0 _ 4 48 Tryz.underlying54 hi0 hz0 hz1 hz2 rfl (by omega) av al.length _ (by rfl) (how4.alloc _) ⟨w4.heap.size, 0, none⟩ 1 1 [.string (str a.name), .string (str a.val), .int .i64 a.lo, .int .i64 a.hi] (by rfl) (by rfl) (World.news_of_block (cs := #[.string (str a.name), .string (str a.val), .int .i64 a.lo, .int .i64 a.hi]) (t := 77) (fr := (0, 0)) (heap_alloc_new w4 _)) (by simp [Value.oneCell']) (by omega) h63 (by omega) (by simp; omega) (w4.heap.size + 1) (by simp) ?_; intro gg cap w5 hown5 hgrow hat hlt5; have x5 : w5.cell? ⟨nb, 2, none⟩ = some av := (hgrow.cell_far _ (by simp; omega) HNO.out).trans (x4a _); have y5 : w5.frozen? ⟨nb, 2, none⟩ = false := (hgrow.frozen_far _ (by simp; omega) HNO.out).trans (y4a _)))
            all_goals
              go_wp2_with fail
              have hpos := pAttr_pos hp2.out
              have hl4 := hr4.2.1
              have hnum := HL3.out.num
              go_roundg (s.length - at4)
              case measure => omega
              case rel => exact ⟨al ++ [a], at4, _, attr_round HL3.out hk4 hr4 hp2.out HR3.out hf hown5 hgrow HV3.out HNB.out hbn⟩
        | false =>
          obtain ⟨f, hf, hR⟩ := HL3.out.rest
          cases f with
          | zero => omega
          | succ f =>
            unfold pAttrs at hR
            rw [hm2, if_neg (by simp)] at hR
            subst hR
            have hE := HE2.out
            rw [HRR.out] at hE
            simp only [Ans.ok_then] at hE
            have h3 : Rdr w3 base b s at' (.slice vo ns.length vc) ns := H2.out.kept HL3.out.kept HL3.out.rd
            have H3 := Lib.hid h3
            have HE3 := Lib.hid hE
            clear hE h3 hm2 x2 y2 hf
            go_wp2_with fail
            cases hm3 : ([62] : B).isPrefixOf (s.drop at') with
            | false =>
              refine (must_bad [62] _ b s at' _ H3.out.rd hm3).mono ?_
              rintro e w6 ⟨rfl, hq6⟩
              obtain rfl : r = .bad ⟨2, at'⟩ := by rw [← HE3.out]; unfold pMust; rw [hm3]; rfl
              have HQ := Lib.hid hq6
              clear hq6 hm3
              go_wp2_with fail
              exact ⟨rfl, rfl, ((HK2.out.trans HL3.out.kept).trans (HQ.out.kept _)).mono (fun k _ hk => .inl hk)⟩
            | true =>
              refine (must_ok [62] _ b s at' _ H3.out.rd hm3).mono ?_
              rintro e w6 ⟨rfl, hk6, hr6⟩
              have hE := HE3.out
              unfold pMust at hE
              rw [hm3, if_pos rfl] at hE
              simp only [Ans.ok_then, List.drop_drop] at hE
              obtain ⟨at6, HA6⟩ : ∃ at6, Hid (at' + ([62] : B).length = at6) := ⟨_, rfl⟩
              rw [HA6.out] at hr6 hE
              have h6 := H3.out.kept hk6 hr6
              have hn6 := hk6.heap hbn' HL3.out.node
              have ho6 := owns_kept HL3.out.own hk6 (fun k hk => by have := (HL3.out.own.lt k hk).1; omega)
              have c2 := h6.rd.c2
              have f2 := h6.rd.free 2
              have z0 := cellIn hn6 0 rfl
              have z1 := cellIn hn6 1 rfl
              have z2 := cellIn hn6 2 rfl
              have z3 := cellIn hn6 3 rfl
              have z4 := cellIn hn6 4 rfl
              have z5 := cellIn hn6 5 rfl
              obtain ⟨avs6, hav6, how6, hat6⟩ := h6.nodes
              have hbs6 := h6.hbase
              have H6 := Lib.hid h6
              have HE6 := Lib.hid hE
              have HN6 := Lib.hid hn6
              have HO6 := Lib.hid ho6
              have HAV := Lib.hid hav6
              have HAT := Lib.hid hat6
              have HK6 := Lib.hid ((HK2.out.trans HL3.out.kept).trans hk6)
              clear h6 hE hn6 ho6 hk6 hr6 hav6 hat6 hm3
              obtain ⟨j0, hj0, hy0, hy1, hy2⟩ := info_parts A.info56
              have hn119 : ns.length + 1 ≤ 120 := by
                have : ns.length ≠ 120 := by intro hh; rw [hh] at e8; simp at e8
                omega
              have h63 : ns.length + 1 ≤ maxLen := by unfold maxLen; omega
              have hav1 : av.oneCell' = true := by
                rcases HO6.out.2 with ⟨rfl, _⟩ | ⟨g, cap, cur, rfl, _⟩ <;> rfl
              have hone : ∀ u ∈ nodeCells ⟨nm, parent, al, at2, 0, 0⟩ av, u.oneCell' = true := by
                intro u hu
                simp only [nodeCells, List.mem_cons, List.not_mem_nil, or_false] at hu
                rcases hu with rfl | rfl | rfl | rfl | rfl | rfl <;> first | exact hav1 | rfl
              have hvb : ∀ k, (Value.slice vo ns.length vc).ownBlock = some k → k ≠ b := fun k hk => by
                have := (how6.lt k hk).1; omega
              have hbno : some b ≠ (Value.slice vo ns.length vc).ownBlock := fun hx => hvb b hx.symm rfl
              have HVB := Lib.hid hvb
              have HBNO := Lib.hid hbno
              have hbl6 := H6.out.rd.lt
              clear hvb hbno
              have hvnb : ∀ k, (Value.slice vo ns.length vc).ownBlock = some k → k < nb := fun k hk => by
                obtain ⟨_, _, how2, _⟩ := H2.out.nodes
                have := (how2.lt k hk).2
                rw [HNB.out] at this; exact this
              have hao : ∀ k, av.ownBlock = some k → k ≠ b ∧ (Value.slice vo ns.length vc).ownBlock ≠ some k ∧ k < w6.heap.size := fun k hk => by
                have hl := HO6.out.lt k hk
                refine ⟨by omega, fun he => ?_, hl.2⟩
                have := hvnb k he; omega
              have HAO := Lib.hid hao
              have HVN := Lib.hid hvnb
              clear hao hvnb
              go_upto_region 11 with fail
              go_cut [] (fun wx => ∃ gg cap, Rdr wx base b s at6 (.slice (some ⟨gg, 0, none⟩) (ns.length + 1) cap) (ns ++ [⟨nm, parent, al, at2, 0, 0⟩]) ∧ Kept (RdrS b (.slice vo ns.length vc)) w6 wx ∧
                ((Value.slice vo ns.length vc).ownBlock = some gg ∨ w6.heap.size ≤ gg))
              case first =>
                go_region_law (refine step_append_lies _ (by rfl) _ _ _ (by rfl) base 56 j0 _ 6 72 Tryz.underlying29 hj0 hy0 hy1 hy2 rfl (by omega) (.slice vo ns.length vc) ns.length _ (by rfl) ((how6.alloc _).drew) ⟨w6.heap.size, 0, none⟩ 1 1 (nodeCells ⟨nm, parent, al, at2, 0, 0⟩ av) (by rfl) (by rfl) (World.news_of_block (cs := #[.string (str nm), .int .i64 parent, av, .int .i64 (at2 : Int), .int .i64 0, .int .i64 0]) (t := 56) (fr := (0, 0)) (heap_alloc_new w6 _)) hone (by omega) h63 (by omega) (by simp; omega) (w6.heap.size + 1) (by simp) ?_; intro gg cap w7 hown7 hgrow7 hat7 hlt7; have d2 := (hgrow7.cell_far ⟨b, 2, none⟩ (by simp; omega) HBNO.out).trans (cell_alloc c2 _); have g2 := (hgrow7.frozen_far ⟨b, 2, none⟩ (by simp; omega) HBNO.out).trans (frozen_alloc' (by show b < _; omega) f2 _))
                all_goals
                  go_wp2_with fail
                  go_meet
                  case rel =>
                    obtain ⟨h8, hk8⟩ := push_node (n := ⟨nm, parent, al, at2, 0, 0⟩) (av := av) H6.out hn119 HAV.out HAT.out (attrsAt_of_owns HO6.out) HAO.out hown7 ⟨hgrow7.os, hgrow7.tape, hgrow7.output, hgrow7.size, hgrow7.block⟩ HVB.out
                      (hat7.imp id (fun h => by omega))
                    exact ⟨gg, cap, h8, hk8, hat7.imp id (fun h => by omega)⟩
              case rest =>
              obtain ⟨gg, cap, h8, hk8, hgg⟩ := hcut
              have hnr : ¬ RdrS b (.slice vo ns.length vc) nb := fun hs => by
                rcases hs with hs | hs
                · exact hbn' hs
                · have := HVN.out nb hs; omega
              have hn8 := hk8.heap hnr HN6.out
              have hgv : ∀ k, (Value.slice (some ⟨gg, 0, none⟩) (ns.length + 1) cap).ownBlock = some k → (Value.slice vo ns.length vc).ownBlock = some k ∨ w.heap.size ≤ k := fun k hk => by
                simp only [Value.ownBlock, Option.some.injEq] at hk
                subst hk
                rcases hgg with h | h
                · exact .inl h
                · have := HK6.out.size; exact .inr (by omega)
              have q0 := cellIn hn8 0 rfl
              have H8 := Lib.hid h8
              have HN8 := Lib.hid hn8
              have HK8 := Lib.hid ((HK6.out.mono (T := RdrS b (.slice vo ns.length vc)) (fun k _ hk => .inl hk)).trans hk8)
              have HGV := Lib.hid hgv
              clear h8 hn8 hk8 z0 z1 z2 z3 z4 z5 c2 f2 hgv how6 hone hav1
              obtain ⟨w8, rfl⟩ : ∃ w8 : World, w8 = wc := ⟨_, rfl⟩
              have hnmlen : nm.length ≤ 6000 := by
                have := (pName_ok HP1.out).1
                omega
              by_cases hst : nm = styleName
              · have e1 : (nm == [115, 116, 121, 108, 101]) = true := by rw [hst]; rfl
                have HST := Lib.hid hst
                obtain ⟨mr, hmr⟩ := H8.out.room
                have c0 := H8.out.rd.c0
                have c1 := H8.out.rd.c1
                have f1 := H8.out.rd.free 1
                have hl8 := H8.out.rd.2.1
                have hm8 := H8.out.rd.2.2
                have hlen : (s.drop at6).length < 4294967281 := by rw [List.length_drop]; omega
                clear hst c1''
                go_wp2_with fail
                cases hf : findSub styleEnd (s.drop at6) with
                | none =>
                  go_quiet ((go_at_call 67; exact Calls.quiet_of_same (index_none _ styleEnd mr _ hlen hmr hf)))
                  have hr0 : r = .bad ⟨2, s.length⟩ := by
                    rw [← HE6.out]; unfold pInside; rw [if_pos HST.out, hf, List.length_drop]
                    show Ans.bad _ = _
                    rw [show at6 + (s.length - at6) = s.length from by omega]
                  subst hr0
                  clear hf
                  go_wp2_with (go_at_call 38; refine (fail_any 2 _ b s s.length _ ((H8.out.quiet ⟨nq, rfl⟩).rd.set rfl (Nat.le_refl _))).mono ?_; rintro e w9 ⟨rfl, hq9⟩)
                  exact ⟨rfl, rfl, (((HK8.out).drewN nq).setCell (p := ⟨b, 1, none⟩) (.inl (.inl rfl)) _).trans (hq9.kept _)⟩
                | some e =>
                  have hfl := findSub_le _ _ _ hf
                  rw [List.length_drop] at hfl
                  have hsl : styleEnd.length = 8 := rfl
                  rw [hsl] at hfl
                  go_quiet ((go_at_call 67; exact Calls.quiet_of_same (index_some _ styleEnd mr _ hlen hmr hf)))
                  have h8q := H8.out.quiet ⟨nq, rfl⟩
                  have hk8q := HK8.out.drewN nq
                  have hn8q : (w8.drewN nq).heap[nb]? = _ := HN8.out
                  have HF := Lib.hid hf
                  clear hf hmr c0 c1 f1 q0
                  revert h8q hk8q hn8q
                  generalize w8.drewN nq = w8q
                  intro h8q hk8q hn8q
                  have c1 := h8q.rd.c1
                  have c2 := h8q.rd.c2
                  have f1 := h8q.rd.free 1
                  obtain ⟨⟨i4, hi4⟩, ⟨i5, hi5⟩, g4, g5, hset⟩ := inner_set h8q (at6 : Int) ((at6 + e : Nat) : Int)
                  have hbg : ¬ b = gg := by
                    obtain ⟨_, _, how, _⟩ := h8q.nodes
                    have := (how.lt gg rfl).1; omega
                  have hbg' : ¬ gg = b := fun h => hbg h.symm
                  have hb1 : (ns.length : Int) < ((ns.length + 1 : Nat) : Int) := by omega
                  have HSET := Lib.hid hset
                  have H8Q := Lib.hid h8q
                  have HK8Q := Lib.hid hk8q
                  have HN8Q := Lib.hid hn8q
                  have hnbg : ¬ nb = gg := by
                    rcases hgg with h | h
                    · have := HVN.out _ h; omega
                    · have := ltIn HN6.out; omega
                  have q0 := cellIn HN8Q.out 0 rfl
                  clear hset h8q hk8q hn8q
                  go_wp2_with fail
                  go_region
                  go_wp2_with fail
                  have hr9 : Rdr (((w8q.setCell ⟨gg, ns.length * 6 + 4, none⟩ (.int .i64 (at6 : Int))).setCell ⟨gg, ns.length * 6 + 4 + 1, none⟩ (.int .i64 ((at6 : Int) + (e : Int)))).setCell ⟨b, 1, none⟩ (.int .i64 ((at6 : Int) + (e : Int)))).drew base b s (at6 + e)
                      (.slice (some ⟨gg, 0, none⟩) (ns.length + 1) cap) (ns ++ [{ (⟨nm, parent, al, at2, 0, 0⟩ : PNode) with inF := (at6 : Int), inT := ((at6 + e : Nat) : Int) }]) :=
                    (Rdr.set HSET.out (a' := at6 + e) (by simp) (by omega)).quiet ⟨1, rfl⟩
                  have hkk : Kept (RdrS b (.slice vo ns.length vc)) w (((w8q.setCell ⟨gg, ns.length * 6 + 4, none⟩ (.int .i64 (at6 : Int))).setCell ⟨gg, ns.length * 6 + 4 + 1, none⟩ (.int .i64 ((at6 : Int) + (e : Int)))).setCell ⟨b, 1, none⟩ (.int .i64 ((at6 : Int) + (e : Int)))).drew := by
                    have hg9 : RdrS b (.slice vo ns.length vc) gg ∨ w.heap.size ≤ gg := by
                      rcases HGV.out gg rfl with h | h
                      · exact .inl (.inr h)
                      · exact .inr h
                    exact (((HK8Q.out.setCell (p := ⟨gg, _, none⟩) hg9 _).setCell (p := ⟨gg, _, none⟩) hg9 _).setCell (p := ⟨b, 1, none⟩) (.inl (.inl rfl)) _).drew
                  have hE := HE6.out
                  unfold pInside at hE
                  rw [if_pos HST.out, HF.out] at hE
                  simp only [Ans.ok_then, List.drop_drop] at hE
                  revert hr9 hkk
                  generalize World.drew (World.setCell _ _ _) = w9
                  intro hr9 hkk
                  obtain ⟨at9, hat9⟩ : ∃ at9, at6 + e = at9 := ⟨_, rfl⟩
                  rw [hat9] at hr9 hE
                  obtain ⟨ns9, hns9⟩ : ∃ ns9, ns ++ [{ (⟨nm, parent, al, at2, 0, 0⟩ : PNode) with inF := (at6 : Int), inT := ((at9 : Nat) : Int) }] = ns9 := ⟨_, rfl⟩
                  rw [hns9] at hr9 hE
                  have H9 := Lib.hid hr9
                  have HK9 := Lib.hid hkk
                  have HE9 := Lib.hid hE
                  have HGV9 := HGV
                  clear hkk hr9 hE hat9 hns9
                  go_wp2_with fail
                  cases hm9 : ([60, 47] ++ nm ++ [62] : B).isPrefixOf (s.drop at9) with
                  | false =>
                    refine (must_bad ([60, 47] ++ nm ++ [62]) _ b s at9 _ H9.out.rd hm9).mono ?_
                    rintro e w10 ⟨rfl, hq10⟩
                    obtain rfl : r = .bad ⟨2, at9⟩ := by rw [← HE9.out, hm9]; rfl
                    have HQ := Lib.hid hq10
                    clear hq10 hm9
                    go_wp2_with fail
                    exact ⟨rfl, rfl, HK9.out.trans (HQ.out.kept _)⟩
                  | true =>
                    refine (must_ok ([60, 47] ++ nm ++ [62]) _ b s at9 _ H9.out.rd hm9).mono ?_
                    rintro e w10 ⟨rfl, hk10, hr10⟩
                    obtain rfl : r = .ok (ns9, s.drop (at9 + ([60, 47] ++ nm ++ [62] : B).length), at9 + ([60, 47] ++ nm ++ [62] : B).length) := by
                      rw [← HE9.out, hm9, if_pos rfl]; simp only [Ans.ok_then, List.drop_drop]
                    have h10 := H9.out.kept hk10 hr10
                    have H10 := Lib.hid h10
                    have HK10 := Lib.hid (HK9.out.trans (hk10.mono (T := RdrS b (.slice vo ns.length vc)) (fun k _ hk => .inl hk)))
                    clear hk10 hr10 h10 hm9 HE9
                    go_wp2_with fail
                    go_end0
                    exact ⟨_, rfl, HK10.out, H10.out, rfl, HGV9.out⟩
              · have e1 : (nm == [115, 116, 121, 108, 101]) = false := by
                  rw [beq_eq_false_iff_ne]; exact hst
                have HNS := Lib.hid hst
                clear hst c1''
                go_wp2_with fail
                have hIC := HI.out (ns.length : Int) (deep + 1) (ns ++ [⟨nm, parent, al, at2, 0, 0⟩]) at6 _ w8 (by
                  have h1 := (pName_ok HP1.out).2.2.1
                  have h2 := HL3.out.le
                  have h3 := HA6.out
                  have h4 := H8.out.rd.2.1
                  simp only [List.length_singleton] at h3
                  omega) (by omega) H8.out
                rw [show (((deep + 1 : Nat)) : Int) = (deep : Int) + 1 from by omega] at hIC
                have hE := HE6.out
                unfold pInside at hE
                rw [if_neg HNS.out] at hE
                obtain ⟨ans, hans⟩ : ∃ ans, items (ns.length : Int) (deep + 1) (ns ++ [⟨nm, parent, al, at2, 0, 0⟩]) (s.drop at6) at6 = ans := ⟨_, rfl⟩
                rw [hans] at hE hIC
                have HE7 := Lib.hid hE
                clear hE q0 hans
                refine hIC.mono ?_
                clear hIC
                cases ans with
                | bad f0 =>
                  rintro e w9 ⟨rfl, hk9⟩
                  obtain rfl : r = .bad f0 := by rw [← HE7.out]; rfl
                  have HK9 := Lib.hid (HK8.out.trans' hk9 (fun i hi hs => by
                    rcases hs with hs | hs
                    · exact .inl hs
                    · rcases HGV.out i hs with h | h
                      · exact .inr h
                      · omega))
                  clear hk9
                  go_wp2_with fail
                  exact ⟨rfl, rfl, HK9.out⟩
                | ok y =>
                  obtain ⟨ns9, l9, at9⟩ := y
                  rintro e w9 ⟨v9, rfl, hk9, hr9, rfl, hgv9⟩
                  have hkk := HK8.out.trans' hk9 (fun i hi hs => by
                    rcases hs with hs | hs
                    · exact .inl hs
                    · rcases HGV.out i hs with h | h
                      · exact .inr h
                      · omega)
                  have hn9 := hk9.heap (fun hs => by
                    rcases hs with hs | hs
                    · exact hbn' hs
                    · simp only [Value.ownBlock, Option.some.injEq] at hs
                      rcases hgg with h | h
                      · have := HVN.out _ h; omega
                      · have := ltIn HN6.out; omega) HN8.out
                  have q0 := cellIn hn9 0 rfl
                  have H9 := Lib.hid hr9
                  have HK9 := Lib.hid hkk
                  have HE9 := HE7
                  simp only [Ans.ok_then] at HE9
                  have HGV9 : Hid (∀ k, v9.ownBlock = some k → (Value.slice vo ns.length vc).ownBlock = some k ∨ w.heap.size ≤ k) := Lib.hid fun k hk => by
                    rcases hgv9 k hk with h | h
                    · exact HGV.out k h
                    · have := HK8.out.size; exact .inr (by omega)
                  clear hkk hn9 hr9 hk9 hgv9
                  go_wp2_with fail
                  cases hm9 : ([60, 47] ++ nm ++ [62] : B).isPrefixOf (s.drop at9) with
                  | false =>
                    refine (must_bad ([60, 47] ++ nm ++ [62]) _ b s at9 _ H9.out.rd hm9).mono ?_
                    rintro e w10 ⟨rfl, hq10⟩
                    obtain rfl : r = .bad ⟨2, at9⟩ := by rw [← HE9.out, hm9]; rfl
                    have HQ := Lib.hid hq10
                    clear hq10 hm9
                    go_wp2_with fail
                    exact ⟨rfl, rfl, HK9.out.trans (HQ.out.kept _)⟩
                  | true =>
                    refine (must_ok ([60, 47] ++ nm ++ [62]) _ b s at9 _ H9.out.rd hm9).mono ?_
                    rintro e w10 ⟨rfl, hk10, hr10⟩
                    obtain rfl : r = .ok (ns9, s.drop (at9 + ([60, 47] ++ nm ++ [62] : B).length), at9 + ([60, 47] ++ nm ++ [62] : B).length) := by
                      rw [← HE9.out, hm9, if_pos rfl]; simp only [Ans.ok_then, List.drop_drop]
                    have h10 := H9.out.kept hk10 hr10
                    have H10 := Lib.hid h10
                    have HK10 := Lib.hid (HK9.out.trans (hk10.mono (T := RdrS b (.slice vo ns.length vc)) (fun k _ hk => .inl hk)))
                    clear hk10 hr10 h10 hm9 HE9
                    go_wp2_with fail
                    go_end0
                    exact ⟨_, rfl, HK10.out, H10.out, rfl, HGV9.out⟩
end Go.Proofs.YtplbdlgmjehckadGreatDoor

