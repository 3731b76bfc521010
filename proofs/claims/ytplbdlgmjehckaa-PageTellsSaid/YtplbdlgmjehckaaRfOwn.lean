/-
  The document's answer: its walk and the elements that it owns.
-/
import Derived.Test.YtplbdlgmjehckaaRfNm
import Derived.Test.YtplbdlgmjehckaaPgElem
namespace Go.Proofs.Ytplbdlgmjehckaa
open Go.RowKit
set_option linter.unusedVariables false
set_option linter.unusedSimpArgs false

structure Wk (w : World) (base b : Nat) (s : B) (at_ : Nat) (v : Value) (ns : List PNode) : Prop where
  rd : WkAt w b s at_ good v
  nodes : NodesOwn w base b v ns
  hb : b < base
  hbase : base ≤ w.heap.size
  few : ns.length ≤ 120
  hb0 : 0 < b

theorem Wk.kept {w w' : World} {base b : Nat} {s : B} {a a' : Nat} {v : Value} {ns : List PNode} (h : Wk w base b s a v ns) (hk : Kept (· = b) w w') (hr : WkAt w' b s a' good v) : Wk w' base b s a' v ns :=
  ⟨hr, h.nodes.kept hk h.hb, h.hb, Nat.le_trans h.hbase hk.size, h.few, h.hb0⟩

theorem Wk.quiet {w w' : World} {base b : Nat} {s : B} {a : Nat} {v : Value} {ns : List PNode} (h : Wk w base b s a v ns) (hq : Qt w w') : Wk w' base b s a v ns := by
  obtain ⟨n, rfl⟩ := hq
  exact ⟨h.rd, h.nodes, h.hb, h.hbase, h.few, h.hb0⟩
theorem Wk.set {w : World} {base b : Nat} {s : B} {a a' : Nat} {v : Value} {ns : List PNode} (h : Wk w base b s a v ns) {x : Int} (hx : x = (a' : Int)) (hl : a' ≤ s.length) :
    Wk (w.setCell ⟨b, 1, none⟩ (.int .i64 x)) base b s a' v ns := h.kept ((Kept.refl (· = b) w).setCell (p := ⟨b, 1, none⟩) (.inl rfl) _) (h.rd.set hx hl)

theorem push_wk {w w7 : World} {base b gg cap : Nat} {s : B} {a : Nat} {v av : Value} {ns : List PNode} {n : PNode} {avs : List Value} {o : Obj} (h : Wk w base b s a v ns) (h119 : ns.length + 1 ≤ 120)
    (hav : avs.length = ns.length) (hat : ∀ (i : Nat) (n : PNode) (av : Value), ns[i]? = some n → avs[i]? = some av → AttrsAt w av n.attrs ∧ ∀ k, av.ownBlock = some k → k ≠ b ∧ v.ownBlock ≠ some k ∧ k < w.heap.size)
    (ha : AttrsAt w av n.attrs) (hao : ∀ k, av.ownBlock = some k → k ≠ b ∧ v.ownBlock ≠ some k ∧ k < w.heap.size)
    (hown : w7.ownsRow base 35 6 (.slice (some ⟨gg, 0, none⟩) (ns.length + 1) cap) (ns.length + 1) ((List.zipWith nodeCells ns avs).flatten ++ nodeCells n av))
    (hgrow : (w.alloc o).grownBy w7 v.ownBlock) (hvb : ∀ k, v.ownBlock = some k → k ≠ b) (hg : v.ownBlock = some gg ∨ w.heap.size ≤ gg) :
    Wk (w7.setCell ⟨b, 4, none⟩ (.slice (some ⟨gg, 0, none⟩) (ns.length + 1) cap)) base b s a (.slice (some ⟨gg, 0, none⟩) (ns.length + 1) cap) (ns ++ [n]) ∧
    Kept (RdrS b v) w (w7.setCell ⟨b, 4, none⟩ (.slice (some ⟨gg, 0, none⟩) (ns.length + 1) cap)) := by
  have hb := h.hb
  have hbs := h.hbase
  have hk7 : Kept (fun k => v.ownBlock = some k) w w7 := ((Kept.refl _ w).alloc o).grown hgrow (fun k hk => .inl hk)
  have hr7 := h.rd.kept hk7 (fun hh => hvb b hh rfl)
  have hk : Kept (RdrS b v) w (w7.setCell ⟨b, 4, none⟩ (.slice (some ⟨gg, 0, none⟩) (ns.length + 1) cap)) :=
    (hk7.mono (fun k _ hk => .inr hk)).setCell (p := ⟨b, 4, none⟩) (.inl (.inl rfl)) _
  have hown8 := ownsRow_setCell_below hown (a := ⟨b, 4, none⟩) (by show b < base; omega) (.slice (some ⟨gg, 0, none⟩) (ns.length + 1) cap)
  have new : ∀ {x : Value} {al : List PAttr}, AttrsAt w x al → (∀ k, x.ownBlock = some k → k ≠ b ∧ v.ownBlock ≠ some k ∧ k < w.heap.size) →
      AttrsAt (w7.setCell ⟨b, 4, none⟩ (.slice (some ⟨gg, 0, none⟩) (ns.length + 1) cap)) x al ∧ ∀ k, x.ownBlock = some k → k ≠ b ∧ (Value.slice (some ⟨gg, 0, none⟩) (ns.length + 1) cap).ownBlock ≠ some k ∧
        k < (w7.setCell ⟨b, 4, none⟩ (.slice (some ⟨gg, 0, none⟩) (ns.length + 1) cap)).heap.size := by
    intro x al h1 h2
    refine ⟨RowsAt.kept h1 hk (fun k hk hs => ?_), fun k hk' => ⟨(h2 k hk').1, ?_, Nat.lt_of_lt_of_le (h2 k hk').2.2 hk.size⟩⟩
    · rcases hs with hs | hs
      · exact (h2 k hk).1 hs
      · exact (h2 k hk).2.1 hs
    · intro he
      simp only [Value.ownBlock, Option.some.injEq] at he
      subst he
      rcases hg with hg | hg
      · exact (h2 _ hk').2.1 hg
      · have := (h2 _ hk').2.2; omega
  refine ⟨⟨⟨?_, hr7.2⟩, ⟨avs ++ [av], by simp [hav], ?_, ?_⟩, hb, Nat.le_trans hbs hk.size, by simpa using h119, h.hb0⟩, hk⟩
  · have := setIn hr7.1 4 (.slice (some ⟨gg, 0, none⟩) (ns.length + 1) cap)
    simpa using this
  · have e : (List.zipWith nodeCells (ns ++ [n]) (avs ++ [av])).flatten = (List.zipWith nodeCells ns avs).flatten ++ nodeCells n av := by
      rw [List.zipWith_append (by rw [hav])]; simp
    rw [e]; simpa using hown8
  · intro i m x hm hx
    by_cases hi : i < ns.length
    · rw [List.getElem?_append_left hi] at hm
      rw [List.getElem?_append_left (by rw [hav]; exact hi)] at hx
      exact new (hat i m x hm hx).1 (hat i m x hm hx).2
    · have hi2 := (List.getElem?_eq_some_iff.1 hm).1
      simp at hi2
      have : i = ns.length := by omega
      subst this
      simp at hm
      rw [← hav] at hx
      simp at hx
      subst hm; subst hx
      exact new ha hao

/-- where the last element's Inner lies, and what becomes of the reader when it is written -/
theorem inner_wk {w : World} {base b gg cap : Nat} {s : B} {a : Nat} {ns : List PNode} {nd : PNode} (h : Wk w base b s a (.slice (some ⟨gg, 0, none⟩) (ns.length + 1) cap) (ns ++ [nd])) (x y : Int) :
    (∃ u, w.cell? ⟨gg, ns.length * 6 + 4, none⟩ = some u) ∧ (∃ u, w.cell? ⟨gg, ns.length * 6 + 5, none⟩ = some u) ∧ w.frozen? ⟨gg, ns.length * 6 + 4, none⟩ = false ∧ w.frozen? ⟨gg, ns.length * 6 + 5, none⟩ = false ∧
    Wk ((w.setCell ⟨gg, ns.length * 6 + 4, none⟩ (.int .i64 x)).setCell ⟨gg, ns.length * 6 + 5, none⟩ (.int .i64 y)) base b s a (.slice (some ⟨gg, 0, none⟩) (ns.length + 1) cap) (ns ++ [{ nd with inF := x, inT := y }]) := by
  obtain ⟨avs', hav', how', hat'⟩ := h.nodes
  have hn1 : (ns ++ [nd]).length = ns.length + 1 := by simp
  rw [hn1] at hav' how'
  obtain ⟨avs, av, rfl⟩ : ∃ avs av, avs' = avs ++ [av] := by
    have hne : avs' ≠ [] := by intro hh; rw [hh] at hav'; simp at hav'
    exact ⟨avs'.dropLast, avs'.getLast hne, (List.dropLast_concat_getLast hne).symm⟩
  have hav : avs.length = ns.length := by simpa using hav'
  have e : ∀ m : PNode, (List.zipWith nodeCells (ns ++ [m]) (avs ++ [av])).flatten = (List.zipWith nodeCells ns avs).flatten ++ nodeCells m av := fun m => by
    rw [List.zipWith_append (by rw [hav])]; simp
  rw [e] at how'
  have hl := zip_len hav
  have hgb := (how'.lt gg rfl).1
  have hb := h.hb
  have hb0 := h.hb0
  have c4 := how'.cellAt (ns.length * 6 + 4) (by omega)
  have c5 := how'.cellAt (ns.length * 6 + 5) (by omega)
  rw [List.getElem?_append_right (by omega), hl, Nat.add_sub_cancel_left] at c4 c5
  have s1 := (how'.stored (ns.length * 6 + 4) (.int .i64 x)).1
  have s2 := (s1.stored (ns.length * 6 + 5) (.int .i64 y)).1
  have hk : Kept (· = gg) w ((w.setCell ⟨gg, ns.length * 6 + 4, none⟩ (.int .i64 x)).setCell ⟨gg, ns.length * 6 + 5, none⟩ (.int .i64 y)) :=
    ((Kept.refl (· = gg) w).setCell (p := ⟨gg, _, none⟩) (.inl rfl) _).setCell (p := ⟨gg, _, none⟩) (.inl rfl) _
  rw [List.set_append_right _ _ (by omega), hl, Nat.add_sub_cancel_left, List.set_append_right _ _ (by omega), hl, Nat.add_sub_cancel_left] at s2
  refine ⟨⟨_, c4⟩, ⟨_, c5⟩, how'.frozenAt _, how'.frozenAt _, ⟨h.rd.kept hk (by omega), ⟨avs ++ [av], by simp [hav], ?_, ?_⟩, hb, Nat.le_trans h.hbase hk.size, ?_, hb0⟩⟩
  · rw [e]
    simpa [nodeCells] using s2
  · intro i m z hm hz
    have old : ∀ m' : PNode, (ns ++ [nd])[i]? = some m' → m'.attrs = m.attrs → _ := fun m' hm' ha => hat' i m' z hm' hz
    have : ∃ m' : PNode, (ns ++ [nd])[i]? = some m' ∧ m'.attrs = m.attrs := by
      by_cases hi : i < ns.length
      · rw [List.getElem?_append_left hi] at hm ⊢
        exact ⟨m, hm, rfl⟩
      · have hi2 := (List.getElem?_eq_some_iff.1 hm).1
        simp at hi2
        have : i = ns.length := by omega
        subst this
        simp at hm ⊢
        subst hm; rfl
    obtain ⟨m', hm', ha⟩ := this
    obtain ⟨h1, h2⟩ := hat' i m' z hm' hz
    rw [ha] at h1
    refine ⟨RowsAt.kept h1 hk (fun k hk' hs => ?_), fun k hk' => ⟨(h2 k hk').1, (h2 k hk').2.1, Nat.lt_of_lt_of_le (h2 k hk').2.2 hk.size⟩⟩
    exact (h2 k hk').2.1 (by rw [hs]; rfl)
  · have := h.few; simpa using this

end Go.Proofs.Ytplbdlgmjehckaa
