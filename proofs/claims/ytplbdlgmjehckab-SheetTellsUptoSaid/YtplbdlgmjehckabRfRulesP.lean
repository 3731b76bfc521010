/-
  The document's answer: rules, the plain part; a rule in the making, in a box of its own.
-/
import Derived.Test.YtplbdlgmjehckabRfSel
import Derived.Test.YtplbdlgmjehckabShRules
import Derived.Test.YtplbdlgmjehckabRfPlain
namespace Go.Proofs.Ytplbdlgmjehckab
open Go.RowKit
set_option linter.unusedVariables false
set_option linter.unusedSimpArgs false

/-- what follows a selector -/
def kComma (n : Nat) (ss : List PSel) (x : PSel × B × Nat) : Ans (List PSel × B × Nat) :=
  if ([44] : B).isPrefixOf x.2.1 then (sGap (x.2.1.drop 1) (x.2.2 + 1)).then fun y => sSelsL n (ss ++ [x.1]) y.1 y.2 else .ok (ss ++ [x.1], x.2.1, x.2.2)
theorem selsL_many {n : Nat} {ss : List PSel} {l : B} {a : Nat} (h : ss.length = 8) : sSelsL (n + 1) ss l a = .bad ⟨5, a⟩ := by
  rw [← sSelsL_step rfl, if_pos h]
theorem selsL_more {n : Nat} {ss : List PSel} {l : B} {a : Nat} (h : ss.length ≠ 8) : sSelsL (n + 1) ss l a = (sSel l a).then (kComma n ss) := by
  rw [← sSelsL_step rfl, if_neg h]; rfl
/-- what follows a rule's selectors -/
def kClose (md : B) (a : Nat) (ss : List PSel) (z : List PDecl × B × Nat) : Ans (PRule × B × Nat) :=
  (pMust [125] z.2.1 z.2.2).then fun u => .ok (⟨md, ss, z.1, (a : Int), (u.2 : Int)⟩, u.1, u.2)
def kBrace (md : B) (a : Nat) (x : List PSel × B × Nat) : Ans (PRule × B × Nat) :=
  (pMust [123] x.2.1 x.2.2).then fun y => (sDecls y.1 y.2).then (kClose md a x.1)
theorem sRule_eq (md l : B) (a : Nat) : sRule md l a = (sSelsL (l.length + 1) [] l a).then (kBrace md a) := rfl
theorem rulesL_end {n : Nat} {md : B} {rs : List PRule} {l : B} {a : Nat} (h : (l.isEmpty || ([125] : B).isPrefixOf l) = true) : sRulesL (n + 1) md rs l a = .ok (rs, l, a) := by
  rw [← sRulesL_step rfl, if_pos h]
theorem rulesL_media {n : Nat} {md : B} {rs : List PRule} {l : B} {a : Nat} (h : (l.isEmpty || ([125] : B).isPrefixOf l) = false) (h2 : (md.isEmpty && mediaWord.isPrefixOf l) = true) :
    sRulesL (n + 1) md rs l a = (sMediaHead (l.drop 6) (a + 6)).then fun h => (rulesFrom n h.1 rs h.2.1 h.2.2).then fun x => (pMust [125] x.2.1 x.2.2).then fun y => rulesFrom n md x.1 y.1 y.2 := by
  rw [← sRulesL_step rfl, if_neg (by simp [h]), if_pos h2]
theorem rulesL_many {n : Nat} {md : B} {rs : List PRule} {l : B} {a : Nat} (h : (l.isEmpty || ([125] : B).isPrefixOf l) = false) (h2 : (md.isEmpty && mediaWord.isPrefixOf l) = false) (h3 : rs.length = 60) :
    sRulesL (n + 1) md rs l a = .bad ⟨5, a⟩ := by
  rw [← sRulesL_step rfl, if_neg (by simp [h]), if_neg (by simp [h2]), if_pos h3]
theorem rulesL_more {n : Nat} {md : B} {rs : List PRule} {l : B} {a : Nat} (h : (l.isEmpty || ([125] : B).isPrefixOf l) = false) (h2 : (md.isEmpty && mediaWord.isPrefixOf l) = false) (h3 : rs.length ≠ 60) :
    sRulesL (n + 1) md rs l a = (sRule md l a).then fun x => rulesFrom n md (rs ++ [x.1]) x.2.1 x.2.2 := by
  rw [← sRulesL_step rfl, if_neg (by simp [h]), if_neg (by simp [h2]), if_neg h3]

/-- one selector more, in the box of its rule -/
theorem rsel_push {w0 wr w4 w5 : World} {b nb p4 gg cap : Nat} {s md : B} {v sv pv : Value} {a0 : Int} {ss : List PSel} {vs : List Value} {ps : PSel} {f4 : Flt} {o : Obj}
    (hn : wr.heap[nb]? = some (.cells #[.string (str md), sv, .slice none 0 0, .int .i64 a0, .int .i64 0] 42 (0, 0))) (hO : SelOwn wr (nb + 1) sv ss vs) (hb : b < nb)
    (hw0 : Kept (· = b) w0 wr) (h0 : w0.heap.size ≤ nb) (hkw : Kept (· = b) wr w4) (hr4 : WkAt w4 b s p4 f4 v) (hpv : PartsIn w4 (fun k => k < wr.heap.size) pv ps)
    (hown5 : w5.ownsRow (nb + 1) 59 1 (.slice (some ⟨gg, 0, none⟩) (ss.length + 1) cap) (ss.length + 1) ((List.zipWith selCells ss vs).flatten ++ [pv]))
    (hgrow : (w4.alloc o).grownBy w5 sv.ownBlock) (hat : sv.ownBlock = some gg ∨ gg = w4.heap.size + 1) :
    WkAt (w5.setCell ⟨nb, 1, none⟩ (.slice (some ⟨gg, 0, none⟩) (ss.length + 1) cap)) b s p4 f4 v ∧
    (w5.setCell ⟨nb, 1, none⟩ (.slice (some ⟨gg, 0, none⟩) (ss.length + 1) cap)).heap[nb]? = some (.cells #[.string (str md), .slice (some ⟨gg, 0, none⟩) (ss.length + 1) cap, .slice none 0 0, .int .i64 a0, .int .i64 0] 42 (0, 0)) ∧
    SelOwn (w5.setCell ⟨nb, 1, none⟩ (.slice (some ⟨gg, 0, none⟩) (ss.length + 1) cap)) (nb + 1) (.slice (some ⟨gg, 0, none⟩) (ss.length + 1) cap) (ss ++ [ps]) (vs ++ [pv]) ∧
    Kept (· = b) w0 (w5.setCell ⟨nb, 1, none⟩ (.slice (some ⟨gg, 0, none⟩) (ss.length + 1) cap)) := by
  have hlt := hO.own.lt
  have hno : ¬ sv.ownBlock = some nb := fun h => by have := (hlt nb h).1; omega
  have hk5 : Kept (fun k => sv.ownBlock = some k) w4 w5 := ((Kept.refl _ w4).alloc o).grown hgrow (fun k hk => .inl hk)
  have o4 : SelOwn w4 (nb + 1) sv ss vs := hO.kept parts_lasts (by omega) hkw
  have o5 : SelOwn w5 (nb + 1) (.slice (some ⟨gg, 0, none⟩) (ss.length + 1) cap) (ss ++ [ps]) (vs ++ [pv]) := by
    refine o4.push2 parts_lasts ?_ ((Kept.refl _ _).alloc o) hown5 hgrow (by rcases hat with h | h; exact .inl h; exact .inr (by omega))
    exact parts_lasts _ _ _ _ (fun _ => False) _ _ hpv (Kept.refl _ _) (fun k _ hs => hs.elim) (fun k _ hx => by
      rcases hx with hx | hx
      · have := ltIn hn; show k < wr.heap.size; omega
      · exact (hlt k hx).2)
  have hn4 : w4.heap[nb]? = _ := hkw.heap (by omega) hn
  have hset : Kept (· = nb) w5 (w5.setCell ⟨nb, 1, none⟩ (.slice (some ⟨gg, 0, none⟩) (ss.length + 1) cap)) := (Kept.refl (· = nb) _).setCell (p := ⟨nb, 1, none⟩) (.inl rfl) _
  refine ⟨(hr4.kept hk5 (fun h => by have := (hlt b h).1; omega)).kept hset (by omega), ?_, o5.kept parts_lasts (b := nb) (by omega) hset, ?_⟩
  · have := setIn (hk5.heap hno hn4) 1 (.slice (some ⟨gg, 0, none⟩) (ss.length + 1) cap)
    simpa using this
  · exact (((hw0.trans hkw).alloc o).grown hgrow (fun k hk => .inr (by have := (hlt k hk).1; omega))).setCell (p := ⟨nb, 1, none⟩) (.inr (by show w0.heap.size ≤ nb; omega)) _
end Go.Proofs.Ytplbdlgmjehckab
