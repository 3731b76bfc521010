/-
  Lemmas for the claims of this seat: the program's functions walked, and plain laws. In this order: TpLawWeight.
-/
import Derived.Test.YtplbdlgmjehckabGreatDoorPk26
import Derived.Test.YtplbdlgmjehckabGreatDoorPk8
namespace Go.Proofs.YtplbdlgmjehckabGreatDoor
open Go.RowKit
set_option linter.unusedVariables false
set_option linter.unusedSimpArgs false
def Three (a b c t : B) : Prop := t.length ≤ 6000 ∧ ∃ m n1 n2 n3, pParse t = .ok m ∧ m[1]? = some n1 ∧ m[2]? = some n2 ∧ m[3]? = some n3 ∧ (pGet n1.attrs styleName).1 = 99 :: 111 :: 108 :: 111 :: 114 :: 58 :: 32 :: a ∧ (pGet n2.attrs styleName).1 = 99 :: 111 :: 108 :: 111 :: 114 :: 58 :: 32 :: b ∧ (pGet n3.attrs styleName).1 = 99 :: 111 :: 108 :: 111 :: 114 :: 58 :: 32 :: c
theorem heap_two {w : World} {q : Nat} {t : TypeId} (h : w.heap[q]? = some (.cells #[.int .i64 0, .int .i64 0] t (0, 0))) : ((w.setCell ⟨q, 0, none⟩ (.int .i64 0)).setCell ⟨q, 1, none⟩ (.int .i64 0)).heap[q]? = some (.cells #[.int .i64 0, .int .i64 0] t (0, 0)) := by
  have h2 := setIn (setIn h 0 (.int .i64 0)) 1 (.int .i64 0)
  simpa using h2
theorem weight_texts0 {a b c : B} (ha : TopW a) (hb : TopW b) (hc : TopW c) : ∃ l rs, fRead (60 :: 115 :: 116 :: 121 :: 108 :: 101 :: 62 :: 35 :: 113 :: 123 :: 99 :: 111 :: 108 :: 111 :: 114 :: 58 :: (a ++ 125 :: 46 :: 107 :: 123 :: 99 :: 111 :: 108 :: 111 :: 114 :: 58 :: (b ++ 125 :: 112 :: 123 :: 99 :: 111 :: 108 :: 111 :: 114 :: 58 :: (c ++ 125 :: 60 :: 47 :: 115 :: 116 :: 121 :: 108 :: 101 :: 62 :: 60 :: 112 :: 32 :: 99 :: 108 :: 97 :: 115 :: 115 :: 61 :: 34 :: 107 :: 34 :: 32 :: 105 :: 100 :: 61 :: 34 :: 113 :: 34 :: 62 :: 120 :: 60 :: 47 :: 112 :: 62 :: 60 :: 112 :: 32 :: 99 :: 108 :: 97 :: 115 :: 115 :: 61 :: 34 :: 107 :: 34 :: 62 :: 121 :: 60 :: 47 :: 112 :: 62 :: 60 :: 112 :: 62 :: 122 :: 60 :: 47 :: 112 :: [62])))) = .ok (l, rs) ∧ ∀ st, IsStays l rs st → ∃ t, fFold (60 :: 115 :: 116 :: 121 :: 108 :: 101 :: 62 :: 35 :: 113 :: 123 :: 99 :: 111 :: 108 :: 111 :: 114 :: 58 :: (a ++ 125 :: 46 :: 107 :: 123 :: 99 :: 111 :: 108 :: 111 :: 114 :: 58 :: (b ++ 125 :: 112 :: 123 :: 99 :: 111 :: 108 :: 111 :: 114 :: 58 :: (c ++ 125 :: 60 :: 47 :: 115 :: 116 :: 121 :: 108 :: 101 :: 62 :: 60 :: 112 :: 32 :: 99 :: 108 :: 97 :: 115 :: 115 :: 61 :: 34 :: 107 :: 34 :: 32 :: 105 :: 100 :: 61 :: 34 :: 113 :: 34 :: 62 :: 120 :: 60 :: 47 :: 112 :: 62 :: 60 :: 112 :: 32 :: 99 :: 108 :: 97 :: 115 :: 115 :: 61 :: 34 :: 107 :: 34 :: 62 :: 121 :: 60 :: 47 :: 112 :: 62 :: 60 :: 112 :: 62 :: 122 :: 60 :: 47 :: 112 :: [62])))) l rs st = .ok t ∧ Three a b c t := by
  have hX : textP (weightT (wXs a b c 0)) = 60 :: 115 :: 116 :: 121 :: 108 :: 101 :: 62 :: 35 :: 113 :: 123 :: 99 :: 111 :: 108 :: 111 :: 114 :: 58 :: (a ++ 125 :: 46 :: 107 :: 123 :: 99 :: 111 :: 108 :: 111 :: 114 :: 58 :: (b ++ 125 :: 112 :: 123 :: 99 :: 111 :: 108 :: 111 :: 114 :: 58 :: (c ++ 125 :: 60 :: 47 :: 115 :: 116 :: 121 :: 108 :: 101 :: 62 :: 60 :: 112 :: 32 :: 99 :: 108 :: 97 :: 115 :: 115 :: 61 :: 34 :: 107 :: 34 :: 32 :: 105 :: 100 :: 61 :: 34 :: 113 :: 34 :: 62 :: 120 :: 60 :: 47 :: 112 :: 62 :: 60 :: 112 :: 32 :: 99 :: 108 :: 97 :: 115 :: 115 :: 61 :: 34 :: 107 :: 34 :: 62 :: 121 :: 60 :: 47 :: 112 :: 62 :: 60 :: 112 :: 62 :: 122 :: 60 :: 47 :: 112 :: [62]))) := by simp [weightT, wXs, wOrder, rid, rcls, rtyp, textP, openText, closeText, attrsText, attrText, styleName, className, idName, textIn, rul, In1.text, ruleText, declText, colorName]
  obtain ⟨h1, h2⟩ := top_weight ha hb hc (o := 0) (by omega)
  rw [hX] at h1 h2
  refine ⟨_, _, h1, fun st S => ?_⟩
  obtain ⟨t, ms, n1, n2, n3, g1, g2, _, k1, k2, k3, v1, v2, v3⟩ := h2 st S
  exact ⟨t, g1, parse_short g2, ms, n1, n2, n3, g2, k1, k2, k3, by rw [v1]; simp [declTextB, colorName], by rw [v2]; simp [declTextB, colorName], by rw [v3]; simp [declTextB, colorName]⟩
theorem weight_texts1 {a b c : B} (ha : TopW a) (hb : TopW b) (hc : TopW c) : ∃ l rs, fRead (60 :: 115 :: 116 :: 121 :: 108 :: 101 :: 62 :: 35 :: 113 :: 123 :: 99 :: 111 :: 108 :: 111 :: 114 :: 58 :: (a ++ 125 :: 112 :: 123 :: 99 :: 111 :: 108 :: 111 :: 114 :: 58 :: (c ++ 125 :: 46 :: 107 :: 123 :: 99 :: 111 :: 108 :: 111 :: 114 :: 58 :: (b ++ 125 :: 60 :: 47 :: 115 :: 116 :: 121 :: 108 :: 101 :: 62 :: 60 :: 112 :: 32 :: 99 :: 108 :: 97 :: 115 :: 115 :: 61 :: 34 :: 107 :: 34 :: 32 :: 105 :: 100 :: 61 :: 34 :: 113 :: 34 :: 62 :: 120 :: 60 :: 47 :: 112 :: 62 :: 60 :: 112 :: 32 :: 99 :: 108 :: 97 :: 115 :: 115 :: 61 :: 34 :: 107 :: 34 :: 62 :: 121 :: 60 :: 47 :: 112 :: 62 :: 60 :: 112 :: 62 :: 122 :: 60 :: 47 :: 112 :: [62])))) = .ok (l, rs) ∧ ∀ st, IsStays l rs st → ∃ t, fFold (60 :: 115 :: 116 :: 121 :: 108 :: 101 :: 62 :: 35 :: 113 :: 123 :: 99 :: 111 :: 108 :: 111 :: 114 :: 58 :: (a ++ 125 :: 112 :: 123 :: 99 :: 111 :: 108 :: 111 :: 114 :: 58 :: (c ++ 125 :: 46 :: 107 :: 123 :: 99 :: 111 :: 108 :: 111 :: 114 :: 58 :: (b ++ 125 :: 60 :: 47 :: 115 :: 116 :: 121 :: 108 :: 101 :: 62 :: 60 :: 112 :: 32 :: 99 :: 108 :: 97 :: 115 :: 115 :: 61 :: 34 :: 107 :: 34 :: 32 :: 105 :: 100 :: 61 :: 34 :: 113 :: 34 :: 62 :: 120 :: 60 :: 47 :: 112 :: 62 :: 60 :: 112 :: 32 :: 99 :: 108 :: 97 :: 115 :: 115 :: 61 :: 34 :: 107 :: 34 :: 62 :: 121 :: 60 :: 47 :: 112 :: 62 :: 60 :: 112 :: 62 :: 122 :: 60 :: 47 :: 112 :: [62])))) l rs st = .ok t ∧ Three a b c t := by
  have hX : textP (weightT (wXs a b c 1)) = 60 :: 115 :: 116 :: 121 :: 108 :: 101 :: 62 :: 35 :: 113 :: 123 :: 99 :: 111 :: 108 :: 111 :: 114 :: 58 :: (a ++ 125 :: 112 :: 123 :: 99 :: 111 :: 108 :: 111 :: 114 :: 58 :: (c ++ 125 :: 46 :: 107 :: 123 :: 99 :: 111 :: 108 :: 111 :: 114 :: 58 :: (b ++ 125 :: 60 :: 47 :: 115 :: 116 :: 121 :: 108 :: 101 :: 62 :: 60 :: 112 :: 32 :: 99 :: 108 :: 97 :: 115 :: 115 :: 61 :: 34 :: 107 :: 34 :: 32 :: 105 :: 100 :: 61 :: 34 :: 113 :: 34 :: 62 :: 120 :: 60 :: 47 :: 112 :: 62 :: 60 :: 112 :: 32 :: 99 :: 108 :: 97 :: 115 :: 115 :: 61 :: 34 :: 107 :: 34 :: 62 :: 121 :: 60 :: 47 :: 112 :: 62 :: 60 :: 112 :: 62 :: 122 :: 60 :: 47 :: 112 :: [62]))) := by simp [weightT, wXs, wOrder, rid, rcls, rtyp, textP, openText, closeText, attrsText, attrText, styleName, className, idName, textIn, rul, In1.text, ruleText, declText, colorName]
  obtain ⟨h1, h2⟩ := top_weight ha hb hc (o := 1) (by omega)
  rw [hX] at h1 h2
  refine ⟨_, _, h1, fun st S => ?_⟩
  obtain ⟨t, ms, n1, n2, n3, g1, g2, _, k1, k2, k3, v1, v2, v3⟩ := h2 st S
  exact ⟨t, g1, parse_short g2, ms, n1, n2, n3, g2, k1, k2, k3, by rw [v1]; simp [declTextB, colorName], by rw [v2]; simp [declTextB, colorName], by rw [v3]; simp [declTextB, colorName]⟩
theorem weight_texts2 {a b c : B} (ha : TopW a) (hb : TopW b) (hc : TopW c) : ∃ l rs, fRead (60 :: 115 :: 116 :: 121 :: 108 :: 101 :: 62 :: 46 :: 107 :: 123 :: 99 :: 111 :: 108 :: 111 :: 114 :: 58 :: (b ++ 125 :: 35 :: 113 :: 123 :: 99 :: 111 :: 108 :: 111 :: 114 :: 58 :: (a ++ 125 :: 112 :: 123 :: 99 :: 111 :: 108 :: 111 :: 114 :: 58 :: (c ++ 125 :: 60 :: 47 :: 115 :: 116 :: 121 :: 108 :: 101 :: 62 :: 60 :: 112 :: 32 :: 99 :: 108 :: 97 :: 115 :: 115 :: 61 :: 34 :: 107 :: 34 :: 32 :: 105 :: 100 :: 61 :: 34 :: 113 :: 34 :: 62 :: 120 :: 60 :: 47 :: 112 :: 62 :: 60 :: 112 :: 32 :: 99 :: 108 :: 97 :: 115 :: 115 :: 61 :: 34 :: 107 :: 34 :: 62 :: 121 :: 60 :: 47 :: 112 :: 62 :: 60 :: 112 :: 62 :: 122 :: 60 :: 47 :: 112 :: [62])))) = .ok (l, rs) ∧ ∀ st, IsStays l rs st → ∃ t, fFold (60 :: 115 :: 116 :: 121 :: 108 :: 101 :: 62 :: 46 :: 107 :: 123 :: 99 :: 111 :: 108 :: 111 :: 114 :: 58 :: (b ++ 125 :: 35 :: 113 :: 123 :: 99 :: 111 :: 108 :: 111 :: 114 :: 58 :: (a ++ 125 :: 112 :: 123 :: 99 :: 111 :: 108 :: 111 :: 114 :: 58 :: (c ++ 125 :: 60 :: 47 :: 115 :: 116 :: 121 :: 108 :: 101 :: 62 :: 60 :: 112 :: 32 :: 99 :: 108 :: 97 :: 115 :: 115 :: 61 :: 34 :: 107 :: 34 :: 32 :: 105 :: 100 :: 61 :: 34 :: 113 :: 34 :: 62 :: 120 :: 60 :: 47 :: 112 :: 62 :: 60 :: 112 :: 32 :: 99 :: 108 :: 97 :: 115 :: 115 :: 61 :: 34 :: 107 :: 34 :: 62 :: 121 :: 60 :: 47 :: 112 :: 62 :: 60 :: 112 :: 62 :: 122 :: 60 :: 47 :: 112 :: [62])))) l rs st = .ok t ∧ Three a b c t := by
  have hX : textP (weightT (wXs a b c 2)) = 60 :: 115 :: 116 :: 121 :: 108 :: 101 :: 62 :: 46 :: 107 :: 123 :: 99 :: 111 :: 108 :: 111 :: 114 :: 58 :: (b ++ 125 :: 35 :: 113 :: 123 :: 99 :: 111 :: 108 :: 111 :: 114 :: 58 :: (a ++ 125 :: 112 :: 123 :: 99 :: 111 :: 108 :: 111 :: 114 :: 58 :: (c ++ 125 :: 60 :: 47 :: 115 :: 116 :: 121 :: 108 :: 101 :: 62 :: 60 :: 112 :: 32 :: 99 :: 108 :: 97 :: 115 :: 115 :: 61 :: 34 :: 107 :: 34 :: 32 :: 105 :: 100 :: 61 :: 34 :: 113 :: 34 :: 62 :: 120 :: 60 :: 47 :: 112 :: 62 :: 60 :: 112 :: 32 :: 99 :: 108 :: 97 :: 115 :: 115 :: 61 :: 34 :: 107 :: 34 :: 62 :: 121 :: 60 :: 47 :: 112 :: 62 :: 60 :: 112 :: 62 :: 122 :: 60 :: 47 :: 112 :: [62]))) := by simp [weightT, wXs, wOrder, rid, rcls, rtyp, textP, openText, closeText, attrsText, attrText, styleName, className, idName, textIn, rul, In1.text, ruleText, declText, colorName]
  obtain ⟨h1, h2⟩ := top_weight ha hb hc (o := 2) (by omega)
  rw [hX] at h1 h2
  refine ⟨_, _, h1, fun st S => ?_⟩
  obtain ⟨t, ms, n1, n2, n3, g1, g2, _, k1, k2, k3, v1, v2, v3⟩ := h2 st S
  exact ⟨t, g1, parse_short g2, ms, n1, n2, n3, g2, k1, k2, k3, by rw [v1]; simp [declTextB, colorName], by rw [v2]; simp [declTextB, colorName], by rw [v3]; simp [declTextB, colorName]⟩
theorem weight_texts3 {a b c : B} (ha : TopW a) (hb : TopW b) (hc : TopW c) : ∃ l rs, fRead (60 :: 115 :: 116 :: 121 :: 108 :: 101 :: 62 :: 46 :: 107 :: 123 :: 99 :: 111 :: 108 :: 111 :: 114 :: 58 :: (b ++ 125 :: 112 :: 123 :: 99 :: 111 :: 108 :: 111 :: 114 :: 58 :: (c ++ 125 :: 35 :: 113 :: 123 :: 99 :: 111 :: 108 :: 111 :: 114 :: 58 :: (a ++ 125 :: 60 :: 47 :: 115 :: 116 :: 121 :: 108 :: 101 :: 62 :: 60 :: 112 :: 32 :: 99 :: 108 :: 97 :: 115 :: 115 :: 61 :: 34 :: 107 :: 34 :: 32 :: 105 :: 100 :: 61 :: 34 :: 113 :: 34 :: 62 :: 120 :: 60 :: 47 :: 112 :: 62 :: 60 :: 112 :: 32 :: 99 :: 108 :: 97 :: 115 :: 115 :: 61 :: 34 :: 107 :: 34 :: 62 :: 121 :: 60 :: 47 :: 112 :: 62 :: 60 :: 112 :: 62 :: 122 :: 60 :: 47 :: 112 :: [62])))) = .ok (l, rs) ∧ ∀ st, IsStays l rs st → ∃ t, fFold (60 :: 115 :: 116 :: 121 :: 108 :: 101 :: 62 :: 46 :: 107 :: 123 :: 99 :: 111 :: 108 :: 111 :: 114 :: 58 :: (b ++ 125 :: 112 :: 123 :: 99 :: 111 :: 108 :: 111 :: 114 :: 58 :: (c ++ 125 :: 35 :: 113 :: 123 :: 99 :: 111 :: 108 :: 111 :: 114 :: 58 :: (a ++ 125 :: 60 :: 47 :: 115 :: 116 :: 121 :: 108 :: 101 :: 62 :: 60 :: 112 :: 32 :: 99 :: 108 :: 97 :: 115 :: 115 :: 61 :: 34 :: 107 :: 34 :: 32 :: 105 :: 100 :: 61 :: 34 :: 113 :: 34 :: 62 :: 120 :: 60 :: 47 :: 112 :: 62 :: 60 :: 112 :: 32 :: 99 :: 108 :: 97 :: 115 :: 115 :: 61 :: 34 :: 107 :: 34 :: 62 :: 121 :: 60 :: 47 :: 112 :: 62 :: 60 :: 112 :: 62 :: 122 :: 60 :: 47 :: 112 :: [62])))) l rs st = .ok t ∧ Three a b c t := by
  have hX : textP (weightT (wXs a b c 3)) = 60 :: 115 :: 116 :: 121 :: 108 :: 101 :: 62 :: 46 :: 107 :: 123 :: 99 :: 111 :: 108 :: 111 :: 114 :: 58 :: (b ++ 125 :: 112 :: 123 :: 99 :: 111 :: 108 :: 111 :: 114 :: 58 :: (c ++ 125 :: 35 :: 113 :: 123 :: 99 :: 111 :: 108 :: 111 :: 114 :: 58 :: (a ++ 125 :: 60 :: 47 :: 115 :: 116 :: 121 :: 108 :: 101 :: 62 :: 60 :: 112 :: 32 :: 99 :: 108 :: 97 :: 115 :: 115 :: 61 :: 34 :: 107 :: 34 :: 32 :: 105 :: 100 :: 61 :: 34 :: 113 :: 34 :: 62 :: 120 :: 60 :: 47 :: 112 :: 62 :: 60 :: 112 :: 32 :: 99 :: 108 :: 97 :: 115 :: 115 :: 61 :: 34 :: 107 :: 34 :: 62 :: 121 :: 60 :: 47 :: 112 :: 62 :: 60 :: 112 :: 62 :: 122 :: 60 :: 47 :: 112 :: [62]))) := by simp [weightT, wXs, wOrder, rid, rcls, rtyp, textP, openText, closeText, attrsText, attrText, styleName, className, idName, textIn, rul, In1.text, ruleText, declText, colorName]
  obtain ⟨h1, h2⟩ := top_weight ha hb hc (o := 3) (by omega)
  rw [hX] at h1 h2
  refine ⟨_, _, h1, fun st S => ?_⟩
  obtain ⟨t, ms, n1, n2, n3, g1, g2, _, k1, k2, k3, v1, v2, v3⟩ := h2 st S
  exact ⟨t, g1, parse_short g2, ms, n1, n2, n3, g2, k1, k2, k3, by rw [v1]; simp [declTextB, colorName], by rw [v2]; simp [declTextB, colorName], by rw [v3]; simp [declTextB, colorName]⟩
theorem weight_texts4 {a b c : B} (ha : TopW a) (hb : TopW b) (hc : TopW c) : ∃ l rs, fRead (60 :: 115 :: 116 :: 121 :: 108 :: 101 :: 62 :: 112 :: 123 :: 99 :: 111 :: 108 :: 111 :: 114 :: 58 :: (c ++ 125 :: 35 :: 113 :: 123 :: 99 :: 111 :: 108 :: 111 :: 114 :: 58 :: (a ++ 125 :: 46 :: 107 :: 123 :: 99 :: 111 :: 108 :: 111 :: 114 :: 58 :: (b ++ 125 :: 60 :: 47 :: 115 :: 116 :: 121 :: 108 :: 101 :: 62 :: 60 :: 112 :: 32 :: 99 :: 108 :: 97 :: 115 :: 115 :: 61 :: 34 :: 107 :: 34 :: 32 :: 105 :: 100 :: 61 :: 34 :: 113 :: 34 :: 62 :: 120 :: 60 :: 47 :: 112 :: 62 :: 60 :: 112 :: 32 :: 99 :: 108 :: 97 :: 115 :: 115 :: 61 :: 34 :: 107 :: 34 :: 62 :: 121 :: 60 :: 47 :: 112 :: 62 :: 60 :: 112 :: 62 :: 122 :: 60 :: 47 :: 112 :: [62])))) = .ok (l, rs) ∧ ∀ st, IsStays l rs st → ∃ t, fFold (60 :: 115 :: 116 :: 121 :: 108 :: 101 :: 62 :: 112 :: 123 :: 99 :: 111 :: 108 :: 111 :: 114 :: 58 :: (c ++ 125 :: 35 :: 113 :: 123 :: 99 :: 111 :: 108 :: 111 :: 114 :: 58 :: (a ++ 125 :: 46 :: 107 :: 123 :: 99 :: 111 :: 108 :: 111 :: 114 :: 58 :: (b ++ 125 :: 60 :: 47 :: 115 :: 116 :: 121 :: 108 :: 101 :: 62 :: 60 :: 112 :: 32 :: 99 :: 108 :: 97 :: 115 :: 115 :: 61 :: 34 :: 107 :: 34 :: 32 :: 105 :: 100 :: 61 :: 34 :: 113 :: 34 :: 62 :: 120 :: 60 :: 47 :: 112 :: 62 :: 60 :: 112 :: 32 :: 99 :: 108 :: 97 :: 115 :: 115 :: 61 :: 34 :: 107 :: 34 :: 62 :: 121 :: 60 :: 47 :: 112 :: 62 :: 60 :: 112 :: 62 :: 122 :: 60 :: 47 :: 112 :: [62])))) l rs st = .ok t ∧ Three a b c t := by
  have hX : textP (weightT (wXs a b c 4)) = 60 :: 115 :: 116 :: 121 :: 108 :: 101 :: 62 :: 112 :: 123 :: 99 :: 111 :: 108 :: 111 :: 114 :: 58 :: (c ++ 125 :: 35 :: 113 :: 123 :: 99 :: 111 :: 108 :: 111 :: 114 :: 58 :: (a ++ 125 :: 46 :: 107 :: 123 :: 99 :: 111 :: 108 :: 111 :: 114 :: 58 :: (b ++ 125 :: 60 :: 47 :: 115 :: 116 :: 121 :: 108 :: 101 :: 62 :: 60 :: 112 :: 32 :: 99 :: 108 :: 97 :: 115 :: 115 :: 61 :: 34 :: 107 :: 34 :: 32 :: 105 :: 100 :: 61 :: 34 :: 113 :: 34 :: 62 :: 120 :: 60 :: 47 :: 112 :: 62 :: 60 :: 112 :: 32 :: 99 :: 108 :: 97 :: 115 :: 115 :: 61 :: 34 :: 107 :: 34 :: 62 :: 121 :: 60 :: 47 :: 112 :: 62 :: 60 :: 112 :: 62 :: 122 :: 60 :: 47 :: 112 :: [62]))) := by simp [weightT, wXs, wOrder, rid, rcls, rtyp, textP, openText, closeText, attrsText, attrText, styleName, className, idName, textIn, rul, In1.text, ruleText, declText, colorName]
  obtain ⟨h1, h2⟩ := top_weight ha hb hc (o := 4) (by omega)
  rw [hX] at h1 h2
  refine ⟨_, _, h1, fun st S => ?_⟩
  obtain ⟨t, ms, n1, n2, n3, g1, g2, _, k1, k2, k3, v1, v2, v3⟩ := h2 st S
  exact ⟨t, g1, parse_short g2, ms, n1, n2, n3, g2, k1, k2, k3, by rw [v1]; simp [declTextB, colorName], by rw [v2]; simp [declTextB, colorName], by rw [v3]; simp [declTextB, colorName]⟩
theorem weight_texts5 {a b c : B} (ha : TopW a) (hb : TopW b) (hc : TopW c) : ∃ l rs, fRead (60 :: 115 :: 116 :: 121 :: 108 :: 101 :: 62 :: 112 :: 123 :: 99 :: 111 :: 108 :: 111 :: 114 :: 58 :: (c ++ 125 :: 46 :: 107 :: 123 :: 99 :: 111 :: 108 :: 111 :: 114 :: 58 :: (b ++ 125 :: 35 :: 113 :: 123 :: 99 :: 111 :: 108 :: 111 :: 114 :: 58 :: (a ++ 125 :: 60 :: 47 :: 115 :: 116 :: 121 :: 108 :: 101 :: 62 :: 60 :: 112 :: 32 :: 99 :: 108 :: 97 :: 115 :: 115 :: 61 :: 34 :: 107 :: 34 :: 32 :: 105 :: 100 :: 61 :: 34 :: 113 :: 34 :: 62 :: 120 :: 60 :: 47 :: 112 :: 62 :: 60 :: 112 :: 32 :: 99 :: 108 :: 97 :: 115 :: 115 :: 61 :: 34 :: 107 :: 34 :: 62 :: 121 :: 60 :: 47 :: 112 :: 62 :: 60 :: 112 :: 62 :: 122 :: 60 :: 47 :: 112 :: [62])))) = .ok (l, rs) ∧ ∀ st, IsStays l rs st → ∃ t, fFold (60 :: 115 :: 116 :: 121 :: 108 :: 101 :: 62 :: 112 :: 123 :: 99 :: 111 :: 108 :: 111 :: 114 :: 58 :: (c ++ 125 :: 46 :: 107 :: 123 :: 99 :: 111 :: 108 :: 111 :: 114 :: 58 :: (b ++ 125 :: 35 :: 113 :: 123 :: 99 :: 111 :: 108 :: 111 :: 114 :: 58 :: (a ++ 125 :: 60 :: 47 :: 115 :: 116 :: 121 :: 108 :: 101 :: 62 :: 60 :: 112 :: 32 :: 99 :: 108 :: 97 :: 115 :: 115 :: 61 :: 34 :: 107 :: 34 :: 32 :: 105 :: 100 :: 61 :: 34 :: 113 :: 34 :: 62 :: 120 :: 60 :: 47 :: 112 :: 62 :: 60 :: 112 :: 32 :: 99 :: 108 :: 97 :: 115 :: 115 :: 61 :: 34 :: 107 :: 34 :: 62 :: 121 :: 60 :: 47 :: 112 :: 62 :: 60 :: 112 :: 62 :: 122 :: 60 :: 47 :: 112 :: [62])))) l rs st = .ok t ∧ Three a b c t := by
  have hX : textP (weightT (wXs a b c 5)) = 60 :: 115 :: 116 :: 121 :: 108 :: 101 :: 62 :: 112 :: 123 :: 99 :: 111 :: 108 :: 111 :: 114 :: 58 :: (c ++ 125 :: 46 :: 107 :: 123 :: 99 :: 111 :: 108 :: 111 :: 114 :: 58 :: (b ++ 125 :: 35 :: 113 :: 123 :: 99 :: 111 :: 108 :: 111 :: 114 :: 58 :: (a ++ 125 :: 60 :: 47 :: 115 :: 116 :: 121 :: 108 :: 101 :: 62 :: 60 :: 112 :: 32 :: 99 :: 108 :: 97 :: 115 :: 115 :: 61 :: 34 :: 107 :: 34 :: 32 :: 105 :: 100 :: 61 :: 34 :: 113 :: 34 :: 62 :: 120 :: 60 :: 47 :: 112 :: 62 :: 60 :: 112 :: 32 :: 99 :: 108 :: 97 :: 115 :: 115 :: 61 :: 34 :: 107 :: 34 :: 62 :: 121 :: 60 :: 47 :: 112 :: 62 :: 60 :: 112 :: 62 :: 122 :: 60 :: 47 :: 112 :: [62]))) := by simp [weightT, wXs, wOrder, rid, rcls, rtyp, textP, openText, closeText, attrsText, attrText, styleName, className, idName, textIn, rul, In1.text, ruleText, declText, colorName]
  obtain ⟨h1, h2⟩ := top_weight ha hb hc (o := 5) (by omega)
  rw [hX] at h1 h2
  refine ⟨_, _, h1, fun st S => ?_⟩
  obtain ⟨t, ms, n1, n2, n3, g1, g2, _, k1, k2, k3, v1, v2, v3⟩ := h2 st S
  exact ⟨t, g1, parse_short g2, ms, n1, n2, n3, g2, k1, k2, k3, by rw [v1]; simp [declTextB, colorName], by rw [v2]; simp [declTextB, colorName], by rw [v3]; simp [declTextB, colorName]⟩
set_option maxRecDepth 100000 in
set_option maxHeartbeats 12800000 in
theorem topWeight_any (a b c : B) (k : Int) (m : Int) (w : World) (hm : w.cell? ⟨0, 0, none⟩ = some (.int .i64 m)) (hla : a.length ≤ 9223372036854775807) (hlb : b.length ≤ 9223372036854775807) (hlc : c.length ≤ 9223372036854775807) :
    Calls Tryz.prog 3 #[.string (str a), .string (str b), .string (str c), .int .i64 k] w fun e w' => e = .returned (.bool true) ∧ Kept (fun _ => False) w w' := by
  have HA := Lib.hid (aliveT_any w m hm)
  have HM := Lib.hid hm
  have HWA : Hid (∀ wx, Calls Tryz.prog 7 #[.string (str a)] wx fun e w' => ∃ q0 : Bool, e = .returned (.bool q0) ∧ (q0 = true → TopW a) ∧ Kept (fun _ => False) wx w') := Lib.hid (fun wx => topword_any a wx hla)
  have HWB : Hid (∀ wx, Calls Tryz.prog 7 #[.string (str b)] wx fun e w' => ∃ q0 : Bool, e = .returned (.bool q0) ∧ (q0 = true → TopW b) ∧ Kept (fun _ => False) wx w') := Lib.hid (fun wx => topword_any b wx hlb)
  have HWC : Hid (∀ wx, Calls Tryz.prog 7 #[.string (str c)] wx fun e w' => ∃ q0 : Bool, e = .returned (.bool q0) ∧ (q0 = true → TopW c) ∧ Kept (fun _ => False) wx w') := Lib.hid (fun wx => topword_any c wx hlc)
  clear hm
  go_enter Tryz.func3, Tryz.ntmps3
  go_wp2_with (go_at_call 6; refine HA.out.mono ?_; rintro e w1 ⟨rfl, hk1⟩)
  refine (HWA.out _).mono ?_
  rintro e w2 ⟨qa, rfl, hqa, hk2⟩
  have HK2 := Lib.hid (hk1.trans hk2)
  clear hk2 hk1
  cases qa with
  | false =>
    clear hqa
    go_wp2_with fail
    go_ret
    exact ⟨rfl, HK2.out⟩
  | true =>
    have HTA := Lib.hid (hqa rfl)
    clear hqa
    go_wp2_with fail
    refine (HWB.out _).mono ?_
    rintro e w3 ⟨qb, rfl, hqb, hk3⟩
    have HK3 := Lib.hid (HK2.out.trans hk3)
    clear hk3
    cases qb with
    | false =>
      clear hqb
      go_wp2_with fail
      go_ret
      exact ⟨rfl, HK3.out⟩
    | true =>
      have HTB := Lib.hid (hqb rfl)
      clear hqb
      go_wp2_with fail
      refine (HWC.out _).mono ?_
      rintro e w4 ⟨qc, rfl, hqc, hk4⟩
      have HK4 := Lib.hid (HK3.out.trans hk4)
      clear hk4
      cases qc with
      | false =>
        clear hqc
        go_wp2_with fail
        go_ret
        exact ⟨rfl, HK4.out⟩
      | true =>
        have HTC := Lib.hid (hqc rfl)
        clear hqc
        have h20a := HTA.out.len
        have h20b := HTB.out.len
        have h20c := HTC.out.len
        by_cases hk0 : k < 0
        · go_wp2_with fail
          go_ret
          exact ⟨rfl, HK4.out⟩
        by_cases hk5 : 5 < k
        · go_wp2_with fail
          go_ret
          exact ⟨rfl, HK4.out⟩
        have hkk : k = 0 ∨ k = 1 ∨ k = 2 ∨ k = 3 ∨ k = 4 ∨ k = 5 := by omega
        rcases hkk with rfl | rfl | rfl | rfl | rfl | rfl
        · go_upto_region 6 with fail
          obtain ⟨w5, HW5⟩ : ∃ x, Hid (w4.alloc (.cells #[.string (str (35 :: 113 :: 123 :: 99 :: 111 :: 108 :: 111 :: 114 :: 58 :: (a ++ [125]))), .string (str (46 :: 107 :: 123 :: 99 :: 111 :: 108 :: 111 :: 114 :: 58 :: (b ++ [125]))), .string (str (112 :: 123 :: 99 :: 111 :: 108 :: 111 :: 114 :: 58 :: (c ++ [125])))] 9 (0, 0)) = x) := ⟨_, Lib.hid rfl⟩
          rw [HW5.out]
          go_upto_region 7 with fail
          obtain ⟨x0, HX0⟩ : ∃ x, Hid (w5.alloc (.cells #[.int .i64 0, .int .i64 1, .int .i64 2] 3 (0, 0)) = x) := ⟨_, Lib.hid rfl⟩
          obtain ⟨x1, HX1⟩ : ∃ x, Hid (x0.alloc (.cells #[.int .i64 0, .int .i64 2, .int .i64 1] 3 (0, 0)) = x) := ⟨_, Lib.hid rfl⟩
          obtain ⟨x2, HX2⟩ : ∃ x, Hid (x1.alloc (.cells #[.int .i64 1, .int .i64 0, .int .i64 2] 3 (0, 0)) = x) := ⟨_, Lib.hid rfl⟩
          obtain ⟨x3, HX3⟩ : ∃ x, Hid (x2.alloc (.cells #[.int .i64 1, .int .i64 2, .int .i64 0] 3 (0, 0)) = x) := ⟨_, Lib.hid rfl⟩
          obtain ⟨x4, HX4⟩ : ∃ x, Hid (x3.alloc (.cells #[.int .i64 2, .int .i64 0, .int .i64 1] 3 (0, 0)) = x) := ⟨_, Lib.hid rfl⟩
          obtain ⟨x5, HX5⟩ : ∃ x, Hid (x4.alloc (.cells #[.int .i64 2, .int .i64 1, .int .i64 0] 3 (0, 0)) = x) := ⟨_, Lib.hid rfl⟩
          obtain ⟨x6, HX6⟩ : ∃ x, Hid (x5.alloc (.cells #[.slice (some ⟨w5.heap.size, 0, none⟩) 3 3, .slice (some ⟨w5.heap.size + 1, 0, none⟩) 3 3, .slice (some ⟨w5.heap.size + 1 + 1, 0, none⟩) 3 3, .slice (some ⟨w5.heap.size + 1 + 1 + 1, 0, none⟩) 3 3, .slice (some ⟨w5.heap.size + 1 + 1 + 1 + 1, 0, none⟩) 3 3, .slice (some ⟨w5.heap.size + 1 + 1 + 1 + 1 + 1, 0, none⟩) 3 3] 25 (0, 0)) = x) := ⟨_, Lib.hid rfl⟩
          rw [HX0.out, HX1.out, HX2.out, HX3.out, HX4.out, HX5.out, HX6.out]
          have z0 : x0.heap.size = w5.heap.size + 1 := by rw [← HX0.out]; simp
          have z1 : x1.heap.size = w5.heap.size + 1 + 1 := by rw [← HX1.out]; simp [z0]
          have z2 : x2.heap.size = w5.heap.size + 1 + 1 + 1 := by rw [← HX2.out]; simp [z1]
          have z3 : x3.heap.size = w5.heap.size + 1 + 1 + 1 + 1 := by rw [← HX3.out]; simp [z2]
          have z4 : x4.heap.size = w5.heap.size + 1 + 1 + 1 + 1 + 1 := by rw [← HX4.out]; simp [z3]
          have z5 : x5.heap.size = w5.heap.size + 1 + 1 + 1 + 1 + 1 + 1 := by rw [← HX5.out]; simp [z4]
          have y0 : Kept (fun _ => False) w5 x0 := by rw [← HX0.out]; exact (Kept.refl _ w5).alloc _
          have y1 : Kept (fun _ => False) x0 x1 := by rw [← HX1.out]; exact (Kept.refl _ x0).alloc _
          have y2 : Kept (fun _ => False) x1 x2 := by rw [← HX2.out]; exact (Kept.refl _ x1).alloc _
          have y3 : Kept (fun _ => False) x2 x3 := by rw [← HX3.out]; exact (Kept.refl _ x2).alloc _
          have y4 : Kept (fun _ => False) x3 x4 := by rw [← HX4.out]; exact (Kept.refl _ x3).alloc _
          have y5 : Kept (fun _ => False) x4 x5 := by rw [← HX5.out]; exact (Kept.refl _ x4).alloc _
          have y6 : Kept (fun _ => False) x5 x6 := by rw [← HX6.out]; exact (Kept.refl _ x5).alloc _
          have y5w : Kept (fun _ => False) w4 w5 := by rw [← HW5.out]; exact (Kept.refl _ w4).alloc _
          have yy : Kept (fun _ => False) w5 x6 := (((((y0.trans y1).trans y2).trans y3).trans y4).trans y5).trans y6
          have s0 : x6.heap[w4.heap.size]? = some (.cells #[.string (str (35 :: 113 :: 123 :: 99 :: 111 :: 108 :: 111 :: 114 :: 58 :: (a ++ [125]))), .string (str (46 :: 107 :: 123 :: 99 :: 111 :: 108 :: 111 :: 114 :: 58 :: (b ++ [125]))), .string (str (112 :: 123 :: 99 :: 111 :: 108 :: 111 :: 114 :: 58 :: (c ++ [125])))] 9 (0, 0)) := yy.heap id (by rw [← HW5.out]; exact newIn w4 _)
          have r0 : x6.heap[w5.heap.size]? = some (.cells #[.int .i64 0, .int .i64 1, .int .i64 2] 3 (0, 0)) := by
            exact (((((y1.trans y2).trans y3).trans y4).trans y5).trans y6).heap id (by rw [← HX0.out]; exact newIn w5 _)
          have c0 : x6.cell? ⟨w5.heap.size, 0, none⟩ = some (.int .i64 0) := cellIn r0 0 rfl
          have c1 : x6.cell? ⟨w5.heap.size, 1, none⟩ = some (.int .i64 1) := cellIn r0 1 rfl
          have c2 : x6.cell? ⟨w5.heap.size, 2, none⟩ = some (.int .i64 2) := cellIn r0 2 rfl
          obtain ⟨P0, HP0⟩ : ∃ x : B, Hid (x = 35 :: 113 :: 123 :: 99 :: 111 :: 108 :: 111 :: 114 :: 58 :: (a ++ [125])) := ⟨_, Lib.hid rfl⟩
          obtain ⟨P1, HP1⟩ : ∃ x : B, Hid (x = 46 :: 107 :: 123 :: 99 :: 111 :: 108 :: 111 :: 114 :: 58 :: (b ++ [125])) := ⟨_, Lib.hid rfl⟩
          obtain ⟨P2, HP2⟩ : ∃ x : B, Hid (x = 112 :: 123 :: 99 :: 111 :: 108 :: 111 :: 114 :: 58 :: (c ++ [125])) := ⟨_, Lib.hid rfl⟩
          have lp0 : P0.length ≤ 40 := by rw [HP0.out]; simp; omega
          have lp1 : P1.length ≤ 40 := by rw [HP1.out]; simp; omega
          have lp2 : P2.length ≤ 40 := by rw [HP2.out]; simp; omega
          have d0 : x6.cell? ⟨w4.heap.size, 0, none⟩ = some (.string (str P0)) := by rw [HP0.out]; exact cellIn s0 0 rfl
          have d1 : x6.cell? ⟨w4.heap.size, 1, none⟩ = some (.string (str P1)) := by rw [HP1.out]; exact cellIn s0 1 rfl
          have d2 : x6.cell? ⟨w4.heap.size, 2, none⟩ = some (.string (str P2)) := by rw [HP2.out]; exact cellIn s0 2 rfl
          have HKX := Lib.hid (HK4.out.trans (y5w.trans yy))
          have HC := Lib.hid (weight_texts0 HTA.out HTB.out HTC.out)
          have HF : Hid (∀ wx, wx.cell? ⟨0, 0, none⟩ = some (.int .i64 m) → Calls Tryz.prog 8 #[.string (str (60 :: 115 :: 116 :: 121 :: 108 :: 101 :: 62 :: (P0 ++ (P1 ++ (P2 ++ [60, 47, 115, 116, 121, 108, 101, 62, 60, 112, 32, 99, 108, 97, 115, 115, 61, 34, 107, 34, 32, 105, 100, 61, 34, 113, 34, 62, 120, 60, 47, 112, 62, 60, 112, 32, 99, 108, 97, 115, 115, 61, 34, 107, 34, 62, 121, 60, 47, 112, 62, 60, 112, 62, 122, 60, 47, 112, 62])))))] wx fun e w' => ∃ t, e = .returned (.tuple #[.string (str t), .agg #[.int .i64 0, .int .i64 0]]) ∧ Three a b c t ∧ Kept (fun _ => False) wx w') := Lib.hid (fun wx hw => by
            obtain ⟨l, rs, h1, h2⟩ := HC.out
            have hX : 60 :: 115 :: 116 :: 121 :: 108 :: 101 :: 62 :: (P0 ++ (P1 ++ (P2 ++ [60, 47, 115, 116, 121, 108, 101, 62, 60, 112, 32, 99, 108, 97, 115, 115, 61, 34, 107, 34, 32, 105, 100, 61, 34, 113, 34, 62, 120, 60, 47, 112, 62, 60, 112, 32, 99, 108, 97, 115, 115, 61, 34, 107, 34, 62, 121, 60, 47, 112, 62, 60, 112, 62, 122, 60, 47, 112, 62]))) = 60 :: 115 :: 116 :: 121 :: 108 :: 101 :: 62 :: 35 :: 113 :: 123 :: 99 :: 111 :: 108 :: 111 :: 114 :: 58 :: (a ++ 125 :: 46 :: 107 :: 123 :: 99 :: 111 :: 108 :: 111 :: 114 :: 58 :: (b ++ 125 :: 112 :: 123 :: 99 :: 111 :: 108 :: 111 :: 114 :: 58 :: (c ++ 125 :: 60 :: 47 :: 115 :: 116 :: 121 :: 108 :: 101 :: 62 :: 60 :: 112 :: 32 :: 99 :: 108 :: 97 :: 115 :: 115 :: 61 :: 34 :: 107 :: 34 :: 32 :: 105 :: 100 :: 61 :: 34 :: 113 :: 34 :: 62 :: 120 :: 60 :: 47 :: 112 :: 62 :: 60 :: 112 :: 32 :: 99 :: 108 :: 97 :: 115 :: 115 :: 61 :: 34 :: 107 :: 34 :: 62 :: 121 :: 60 :: 47 :: 112 :: 62 :: 60 :: 112 :: 62 :: 122 :: 60 :: 47 :: 112 :: [62]))) := by rw [HP0.out, HP1.out, HP2.out]; simp
            rw [hX]
            exact fold_law _ m wx hw (by simp; omega) h1 h2)
          have hm6 : x6.cell? ⟨0, 0, none⟩ = some (.int .i64 m) := HKX.out.cell id HM.out
          have g0 : w4.heap.size < x6.heap.size := ltIn s0
          have g1 := ltIn r0
          have g2 : 0 < x6.heap.size := by omega
          clear z0 z1 z2 z3 z4 z5 y0 y1 y2 y3 y4 y5 y6 y5w yy s0 r0
          have e1 : (9223372036854775807 < 7 + P0.length) = False := by simp; omega
          have e2 : (9223372036854775807 < P0.length + 1 + 1 + 1 + 1 + 1 + 1 + 1 + P1.length) = False := by simp; omega
          have e3 : (9223372036854775807 < P0.length + P1.length + 1 + 1 + 1 + 1 + 1 + 1 + 1 + P2.length) = False := by simp; omega
          have e4 : (9223372036854775807 < P0.length + (P1.length + P2.length) + 1 + 1 + 1 + 1 + 1 + 1 + 1 + 59) = False := by simp; omega
          go_cut [11, 12] (fun v p wx => ∃ tt box, v = .string (str tt) ∧ p = .pointer (some ⟨box, 0, none⟩) ∧ Hid (Three a b c tt) ∧ Hid (Kept (fun _ => False) w wx) ∧ Hid (wx.heap[box]? = some (.cells #[.int .i64 0, .int .i64 0] 29 (0, 0))))
          case first =>
            go_region_held3 (fun w' => w'.cell? ⟨w5.heap.size, 0, none⟩ = some (.int .i64 0) ∧ w'.cell? ⟨w5.heap.size, 1, none⟩ = some (.int .i64 1) ∧ w'.cell? ⟨w5.heap.size, 2, none⟩ = some (.int .i64 2) ∧ w'.cell? ⟨w4.heap.size, 0, none⟩ = some (.string (str P0)) ∧ w'.cell? ⟨w4.heap.size, 1, none⟩ = some (.string (str P1)) ∧ w'.cell? ⟨w4.heap.size, 2, none⟩ = some (.string (str P2)) ∧ w'.cell? ⟨0, 0, none⟩ = some (.int .i64 m)) (first | go_keep | (go_split_ands; refine ⟨Kept.cell (S := fun _ => False) (a := x6) ?_ id c0, Kept.cell (S := fun _ => False) (a := x6) ?_ id c1, Kept.cell (S := fun _ => False) (a := x6) ?_ id c2, Kept.cell (S := fun _ => False) (a := x6) ?_ id d0, Kept.cell (S := fun _ => False) (a := x6) ?_ id d1, Kept.cell (S := fun _ => False) (a := x6) ?_ id d2, Kept.cell (S := fun _ => False) (a := x6) ?_ id hm6⟩ <;> (first | exact (hx.setCell (.inr (Nat.le_refl _)) _).setCell (.inr (Nat.le_refl _)) _ | exact (hx.alloc _).setCell (.inr hx.size) _ | exact hx.alloc _ | exact hx | exact hx.drew)))
              ((go_at_call 8; refine (HF.out _ (by first | assumption | exact (((Kept.refl (fun _ => False) x6).alloc _).drew).cell id hm6 | exact ((Kept.refl (fun _ => False) x6).alloc _).cell id hm6 | exact ((Kept.refl (fun _ => False) x6).drew).cell id hm6)).mono ?_; rintro e w7 ⟨t, rfl, ht7, hk7⟩; (try (have hq := hk7.heap id (newIn x6 (.cells #[.int .i64 0, .int .i64 0] 29 (0, 0))); have qc0 := cellIn hq 0 rfl; have qc1 := cellIn hq 1 rfl; have qf0 := freeIn hq 0; have qf1 := freeIn hq 1; replace hq := Lib.hid hq)); (have hx : Kept (fun _ => False) x6 w7 := by first | exact (((Kept.refl _ x6).alloc _).drew).trans hk7 | exact ((Kept.refl _ x6).alloc _).trans hk7 | exact ((Kept.refl _ x6).drew).trans hk7 | exact (Kept.refl _ x6).trans hk7)))
            all_goals
              first
                | (go_wp2_with fail
                   go_meet)
                | go_meet
            all_goals
              first
                | exact ⟨_, _, rfl, rfl, Lib.hid ht7, Lib.hid (HKX.out.trans (hx.alloc _)), Lib.hid (newIn w7 _)⟩
                | exact ⟨_, _, rfl, rfl, Lib.hid ht7, Lib.hid (HKX.out.trans ((hx.setCell (.inr (Nat.le_refl _)) _).setCell (.inr (Nat.le_refl _)) _)), Lib.hid (heap_two hq.out)⟩
          case rest =>
            obtain ⟨tt, bx, rfl, rfl, HT3, HKR, HBX⟩ := hcut
            obtain ⟨htl, ms, n1, n2, n3, hp, hn1, hn2, hn3, hv1, hv2, hv3⟩ := HT3.out
            have HS1 := fun wx (hk : Kept (fun _ => False) w wx) => styleT_any tt ms 1 n1 hp hn1 m wx (hk.cell id HM.out) (by omega)
            have HS2 := fun wx (hk : Kept (fun _ => False) w wx) => styleT_any tt ms 2 n2 hp hn2 m wx (hk.cell id HM.out) (by omega)
            have HS3 := fun wx (hk : Kept (fun _ => False) w wx) => styleT_any tt ms 3 n3 hp hn3 m wx (hk.cell id HM.out) (by omega)
            rw [hv1] at HS1
            rw [hv2] at HS2
            rw [hv3] at HS3
            replace HS1 := Lib.hid HS1
            replace HS2 := Lib.hid HS2
            replace HS3 := Lib.hid HS3
            clear htl hp hn1 hn2 hn3 hv1 hv2 hv3 HT3
            go_wp2_with fail
            refine (HS1.out _ HKR.out).mono ?_
            rintro e w8 ⟨rfl, hk8⟩
            have HK8 := Lib.hid (HKR.out.trans hk8)
            have HB8 := Lib.hid (hk8.heap id HBX.out)
            clear hk8
            go_wp2_with fail
            refine (HS2.out _ HK8.out).mono ?_
            rintro e w9 ⟨rfl, hk9⟩
            have HK9 := Lib.hid (HK8.out.trans hk9)
            have HB9 := Lib.hid (hk9.heap id HB8.out)
            clear hk9
            go_wp2_with fail
            refine (HS3.out _ HK9.out).mono ?_
            rintro e w10 ⟨rfl, hk10⟩
            have HK10 := Lib.hid (HK9.out.trans hk10)
            have b0 : w10.cell? ⟨bx, 0, none⟩ = some (.int .i64 0) := cellIn (hk10.heap id HB9.out) 0 rfl
            clear hk10
            go_wp2_with fail
            go_ret
            exact ⟨rfl, HK10.out⟩
        · go_upto_region 6 with fail
          obtain ⟨w5, HW5⟩ : ∃ x, Hid (w4.alloc (.cells #[.string (str (35 :: 113 :: 123 :: 99 :: 111 :: 108 :: 111 :: 114 :: 58 :: (a ++ [125]))), .string (str (46 :: 107 :: 123 :: 99 :: 111 :: 108 :: 111 :: 114 :: 58 :: (b ++ [125]))), .string (str (112 :: 123 :: 99 :: 111 :: 108 :: 111 :: 114 :: 58 :: (c ++ [125])))] 9 (0, 0)) = x) := ⟨_, Lib.hid rfl⟩
          rw [HW5.out]
          go_upto_region 7 with fail
          obtain ⟨x0, HX0⟩ : ∃ x, Hid (w5.alloc (.cells #[.int .i64 0, .int .i64 1, .int .i64 2] 3 (0, 0)) = x) := ⟨_, Lib.hid rfl⟩
          obtain ⟨x1, HX1⟩ : ∃ x, Hid (x0.alloc (.cells #[.int .i64 0, .int .i64 2, .int .i64 1] 3 (0, 0)) = x) := ⟨_, Lib.hid rfl⟩
          obtain ⟨x2, HX2⟩ : ∃ x, Hid (x1.alloc (.cells #[.int .i64 1, .int .i64 0, .int .i64 2] 3 (0, 0)) = x) := ⟨_, Lib.hid rfl⟩
          obtain ⟨x3, HX3⟩ : ∃ x, Hid (x2.alloc (.cells #[.int .i64 1, .int .i64 2, .int .i64 0] 3 (0, 0)) = x) := ⟨_, Lib.hid rfl⟩
          obtain ⟨x4, HX4⟩ : ∃ x, Hid (x3.alloc (.cells #[.int .i64 2, .int .i64 0, .int .i64 1] 3 (0, 0)) = x) := ⟨_, Lib.hid rfl⟩
          obtain ⟨x5, HX5⟩ : ∃ x, Hid (x4.alloc (.cells #[.int .i64 2, .int .i64 1, .int .i64 0] 3 (0, 0)) = x) := ⟨_, Lib.hid rfl⟩
          obtain ⟨x6, HX6⟩ : ∃ x, Hid (x5.alloc (.cells #[.slice (some ⟨w5.heap.size, 0, none⟩) 3 3, .slice (some ⟨w5.heap.size + 1, 0, none⟩) 3 3, .slice (some ⟨w5.heap.size + 1 + 1, 0, none⟩) 3 3, .slice (some ⟨w5.heap.size + 1 + 1 + 1, 0, none⟩) 3 3, .slice (some ⟨w5.heap.size + 1 + 1 + 1 + 1, 0, none⟩) 3 3, .slice (some ⟨w5.heap.size + 1 + 1 + 1 + 1 + 1, 0, none⟩) 3 3] 25 (0, 0)) = x) := ⟨_, Lib.hid rfl⟩
          rw [HX0.out, HX1.out, HX2.out, HX3.out, HX4.out, HX5.out, HX6.out]
          have z0 : x0.heap.size = w5.heap.size + 1 := by rw [← HX0.out]; simp
          have z1 : x1.heap.size = w5.heap.size + 1 + 1 := by rw [← HX1.out]; simp [z0]
          have z2 : x2.heap.size = w5.heap.size + 1 + 1 + 1 := by rw [← HX2.out]; simp [z1]
          have z3 : x3.heap.size = w5.heap.size + 1 + 1 + 1 + 1 := by rw [← HX3.out]; simp [z2]
          have z4 : x4.heap.size = w5.heap.size + 1 + 1 + 1 + 1 + 1 := by rw [← HX4.out]; simp [z3]
          have z5 : x5.heap.size = w5.heap.size + 1 + 1 + 1 + 1 + 1 + 1 := by rw [← HX5.out]; simp [z4]
          have y0 : Kept (fun _ => False) w5 x0 := by rw [← HX0.out]; exact (Kept.refl _ w5).alloc _
          have y1 : Kept (fun _ => False) x0 x1 := by rw [← HX1.out]; exact (Kept.refl _ x0).alloc _
          have y2 : Kept (fun _ => False) x1 x2 := by rw [← HX2.out]; exact (Kept.refl _ x1).alloc _
          have y3 : Kept (fun _ => False) x2 x3 := by rw [← HX3.out]; exact (Kept.refl _ x2).alloc _
          have y4 : Kept (fun _ => False) x3 x4 := by rw [← HX4.out]; exact (Kept.refl _ x3).alloc _
          have y5 : Kept (fun _ => False) x4 x5 := by rw [← HX5.out]; exact (Kept.refl _ x4).alloc _
          have y6 : Kept (fun _ => False) x5 x6 := by rw [← HX6.out]; exact (Kept.refl _ x5).alloc _
          have y5w : Kept (fun _ => False) w4 w5 := by rw [← HW5.out]; exact (Kept.refl _ w4).alloc _
          have yy : Kept (fun _ => False) w5 x6 := (((((y0.trans y1).trans y2).trans y3).trans y4).trans y5).trans y6
          have s0 : x6.heap[w4.heap.size]? = some (.cells #[.string (str (35 :: 113 :: 123 :: 99 :: 111 :: 108 :: 111 :: 114 :: 58 :: (a ++ [125]))), .string (str (46 :: 107 :: 123 :: 99 :: 111 :: 108 :: 111 :: 114 :: 58 :: (b ++ [125]))), .string (str (112 :: 123 :: 99 :: 111 :: 108 :: 111 :: 114 :: 58 :: (c ++ [125])))] 9 (0, 0)) := yy.heap id (by rw [← HW5.out]; exact newIn w4 _)
          have r0 : x6.heap[w5.heap.size + 1]? = some (.cells #[.int .i64 0, .int .i64 2, .int .i64 1] 3 (0, 0)) := by
            rw [← z0]
            exact ((((y2.trans y3).trans y4).trans y5).trans y6).heap id (by rw [← HX1.out]; exact newIn x0 _)
          have c0 : x6.cell? ⟨w5.heap.size + 1, 0, none⟩ = some (.int .i64 0) := cellIn r0 0 rfl
          have c1 : x6.cell? ⟨w5.heap.size + 1, 1, none⟩ = some (.int .i64 2) := cellIn r0 1 rfl
          have c2 : x6.cell? ⟨w5.heap.size + 1, 2, none⟩ = some (.int .i64 1) := cellIn r0 2 rfl
          obtain ⟨P0, HP0⟩ : ∃ x : B, Hid (x = 35 :: 113 :: 123 :: 99 :: 111 :: 108 :: 111 :: 114 :: 58 :: (a ++ [125])) := ⟨_, Lib.hid rfl⟩
          obtain ⟨P1, HP1⟩ : ∃ x : B, Hid (x = 46 :: 107 :: 123 :: 99 :: 111 :: 108 :: 111 :: 114 :: 58 :: (b ++ [125])) := ⟨_, Lib.hid rfl⟩
          obtain ⟨P2, HP2⟩ : ∃ x : B, Hid (x = 112 :: 123 :: 99 :: 111 :: 108 :: 111 :: 114 :: 58 :: (c ++ [125])) := ⟨_, Lib.hid rfl⟩
          have lp0 : P0.length ≤ 40 := by rw [HP0.out]; simp; omega
          have lp1 : P1.length ≤ 40 := by rw [HP1.out]; simp; omega
          have lp2 : P2.length ≤ 40 := by rw [HP2.out]; simp; omega
          have d0 : x6.cell? ⟨w4.heap.size, 0, none⟩ = some (.string (str P0)) := by rw [HP0.out]; exact cellIn s0 0 rfl
          have d1 : x6.cell? ⟨w4.heap.size, 1, none⟩ = some (.string (str P1)) := by rw [HP1.out]; exact cellIn s0 1 rfl
          have d2 : x6.cell? ⟨w4.heap.size, 2, none⟩ = some (.string (str P2)) := by rw [HP2.out]; exact cellIn s0 2 rfl
          have HKX := Lib.hid (HK4.out.trans (y5w.trans yy))
          have HC := Lib.hid (weight_texts1 HTA.out HTB.out HTC.out)
          have HF : Hid (∀ wx, wx.cell? ⟨0, 0, none⟩ = some (.int .i64 m) → Calls Tryz.prog 8 #[.string (str (60 :: 115 :: 116 :: 121 :: 108 :: 101 :: 62 :: (P0 ++ (P2 ++ (P1 ++ [60, 47, 115, 116, 121, 108, 101, 62, 60, 112, 32, 99, 108, 97, 115, 115, 61, 34, 107, 34, 32, 105, 100, 61, 34, 113, 34, 62, 120, 60, 47, 112, 62, 60, 112, 32, 99, 108, 97, 115, 115, 61, 34, 107, 34, 62, 121, 60, 47, 112, 62, 60, 112, 62, 122, 60, 47, 112, 62])))))] wx fun e w' => ∃ t, e = .returned (.tuple #[.string (str t), .agg #[.int .i64 0, .int .i64 0]]) ∧ Three a b c t ∧ Kept (fun _ => False) wx w') := Lib.hid (fun wx hw => by
            obtain ⟨l, rs, h1, h2⟩ := HC.out
            have hX : 60 :: 115 :: 116 :: 121 :: 108 :: 101 :: 62 :: (P0 ++ (P2 ++ (P1 ++ [60, 47, 115, 116, 121, 108, 101, 62, 60, 112, 32, 99, 108, 97, 115, 115, 61, 34, 107, 34, 32, 105, 100, 61, 34, 113, 34, 62, 120, 60, 47, 112, 62, 60, 112, 32, 99, 108, 97, 115, 115, 61, 34, 107, 34, 62, 121, 60, 47, 112, 62, 60, 112, 62, 122, 60, 47, 112, 62]))) = 60 :: 115 :: 116 :: 121 :: 108 :: 101 :: 62 :: 35 :: 113 :: 123 :: 99 :: 111 :: 108 :: 111 :: 114 :: 58 :: (a ++ 125 :: 112 :: 123 :: 99 :: 111 :: 108 :: 111 :: 114 :: 58 :: (c ++ 125 :: 46 :: 107 :: 123 :: 99 :: 111 :: 108 :: 111 :: 114 :: 58 :: (b ++ 125 :: 60 :: 47 :: 115 :: 116 :: 121 :: 108 :: 101 :: 62 :: 60 :: 112 :: 32 :: 99 :: 108 :: 97 :: 115 :: 115 :: 61 :: 34 :: 107 :: 34 :: 32 :: 105 :: 100 :: 61 :: 34 :: 113 :: 34 :: 62 :: 120 :: 60 :: 47 :: 112 :: 62 :: 60 :: 112 :: 32 :: 99 :: 108 :: 97 :: 115 :: 115 :: 61 :: 34 :: 107 :: 34 :: 62 :: 121 :: 60 :: 47 :: 112 :: 62 :: 60 :: 112 :: 62 :: 122 :: 60 :: 47 :: 112 :: [62]))) := by rw [HP0.out, HP1.out, HP2.out]; simp
            rw [hX]
            exact fold_law _ m wx hw (by simp; omega) h1 h2)
          have hm6 : x6.cell? ⟨0, 0, none⟩ = some (.int .i64 m) := HKX.out.cell id HM.out
          have g0 : w4.heap.size < x6.heap.size := ltIn s0
          have g1 := ltIn r0
          have g2 : 0 < x6.heap.size := by omega
          clear z0 z1 z2 z3 z4 z5 y0 y1 y2 y3 y4 y5 y6 y5w yy s0 r0
          have e1 : (9223372036854775807 < 7 + P0.length) = False := by simp; omega
          have e2 : (9223372036854775807 < P0.length + 1 + 1 + 1 + 1 + 1 + 1 + 1 + P2.length) = False := by simp; omega
          have e3 : (9223372036854775807 < P0.length + P2.length + 1 + 1 + 1 + 1 + 1 + 1 + 1 + P1.length) = False := by simp; omega
          have e4 : (9223372036854775807 < P0.length + (P2.length + P1.length) + 1 + 1 + 1 + 1 + 1 + 1 + 1 + 59) = False := by simp; omega
          go_cut [11, 12] (fun v p wx => ∃ tt box, v = .string (str tt) ∧ p = .pointer (some ⟨box, 0, none⟩) ∧ Hid (Three a b c tt) ∧ Hid (Kept (fun _ => False) w wx) ∧ Hid (wx.heap[box]? = some (.cells #[.int .i64 0, .int .i64 0] 29 (0, 0))))
          case first =>
            go_region_held3 (fun w' => w'.cell? ⟨w5.heap.size + 1, 0, none⟩ = some (.int .i64 0) ∧ w'.cell? ⟨w5.heap.size + 1, 1, none⟩ = some (.int .i64 2) ∧ w'.cell? ⟨w5.heap.size + 1, 2, none⟩ = some (.int .i64 1) ∧ w'.cell? ⟨w4.heap.size, 0, none⟩ = some (.string (str P0)) ∧ w'.cell? ⟨w4.heap.size, 1, none⟩ = some (.string (str P1)) ∧ w'.cell? ⟨w4.heap.size, 2, none⟩ = some (.string (str P2)) ∧ w'.cell? ⟨0, 0, none⟩ = some (.int .i64 m)) (first | go_keep | (go_split_ands; refine ⟨Kept.cell (S := fun _ => False) (a := x6) ?_ id c0, Kept.cell (S := fun _ => False) (a := x6) ?_ id c1, Kept.cell (S := fun _ => False) (a := x6) ?_ id c2, Kept.cell (S := fun _ => False) (a := x6) ?_ id d0, Kept.cell (S := fun _ => False) (a := x6) ?_ id d1, Kept.cell (S := fun _ => False) (a := x6) ?_ id d2, Kept.cell (S := fun _ => False) (a := x6) ?_ id hm6⟩ <;> (first | exact (hx.setCell (.inr (Nat.le_refl _)) _).setCell (.inr (Nat.le_refl _)) _ | exact (hx.alloc _).setCell (.inr hx.size) _ | exact hx.alloc _ | exact hx | exact hx.drew)))
              ((go_at_call 8; refine (HF.out _ (by first | assumption | exact (((Kept.refl (fun _ => False) x6).alloc _).drew).cell id hm6 | exact ((Kept.refl (fun _ => False) x6).alloc _).cell id hm6 | exact ((Kept.refl (fun _ => False) x6).drew).cell id hm6)).mono ?_; rintro e w7 ⟨t, rfl, ht7, hk7⟩; (try (have hq := hk7.heap id (newIn x6 (.cells #[.int .i64 0, .int .i64 0] 29 (0, 0))); have qc0 := cellIn hq 0 rfl; have qc1 := cellIn hq 1 rfl; have qf0 := freeIn hq 0; have qf1 := freeIn hq 1; replace hq := Lib.hid hq)); (have hx : Kept (fun _ => False) x6 w7 := by first | exact (((Kept.refl _ x6).alloc _).drew).trans hk7 | exact ((Kept.refl _ x6).alloc _).trans hk7 | exact ((Kept.refl _ x6).drew).trans hk7 | exact (Kept.refl _ x6).trans hk7)))
            all_goals
              first
                | (go_wp2_with fail
                   go_meet)
                | go_meet
            all_goals
              first
                | exact ⟨_, _, rfl, rfl, Lib.hid ht7, Lib.hid (HKX.out.trans (hx.alloc _)), Lib.hid (newIn w7 _)⟩
                | exact ⟨_, _, rfl, rfl, Lib.hid ht7, Lib.hid (HKX.out.trans ((hx.setCell (.inr (Nat.le_refl _)) _).setCell (.inr (Nat.le_refl _)) _)), Lib.hid (heap_two hq.out)⟩
          case rest =>
            obtain ⟨tt, bx, rfl, rfl, HT3, HKR, HBX⟩ := hcut
            obtain ⟨htl, ms, n1, n2, n3, hp, hn1, hn2, hn3, hv1, hv2, hv3⟩ := HT3.out
            have HS1 := fun wx (hk : Kept (fun _ => False) w wx) => styleT_any tt ms 1 n1 hp hn1 m wx (hk.cell id HM.out) (by omega)
            have HS2 := fun wx (hk : Kept (fun _ => False) w wx) => styleT_any tt ms 2 n2 hp hn2 m wx (hk.cell id HM.out) (by omega)
            have HS3 := fun wx (hk : Kept (fun _ => False) w wx) => styleT_any tt ms 3 n3 hp hn3 m wx (hk.cell id HM.out) (by omega)
            rw [hv1] at HS1
            rw [hv2] at HS2
            rw [hv3] at HS3
            replace HS1 := Lib.hid HS1
            replace HS2 := Lib.hid HS2
            replace HS3 := Lib.hid HS3
            clear htl hp hn1 hn2 hn3 hv1 hv2 hv3 HT3
            go_wp2_with fail
            refine (HS1.out _ HKR.out).mono ?_
            rintro e w8 ⟨rfl, hk8⟩
            have HK8 := Lib.hid (HKR.out.trans hk8)
            have HB8 := Lib.hid (hk8.heap id HBX.out)
            clear hk8
            go_wp2_with fail
            refine (HS2.out _ HK8.out).mono ?_
            rintro e w9 ⟨rfl, hk9⟩
            have HK9 := Lib.hid (HK8.out.trans hk9)
            have HB9 := Lib.hid (hk9.heap id HB8.out)
            clear hk9
            go_wp2_with fail
            refine (HS3.out _ HK9.out).mono ?_
            rintro e w10 ⟨rfl, hk10⟩
            have HK10 := Lib.hid (HK9.out.trans hk10)
            have b0 : w10.cell? ⟨bx, 0, none⟩ = some (.int .i64 0) := cellIn (hk10.heap id HB9.out) 0 rfl
            clear hk10
            go_wp2_with fail
            go_ret
            exact ⟨rfl, HK10.out⟩
        · go_upto_region 6 with fail
          obtain ⟨w5, HW5⟩ : ∃ x, Hid (w4.alloc (.cells #[.string (str (35 :: 113 :: 123 :: 99 :: 111 :: 108 :: 111 :: 114 :: 58 :: (a ++ [125]))), .string (str (46 :: 107 :: 123 :: 99 :: 111 :: 108 :: 111 :: 114 :: 58 :: (b ++ [125]))), .string (str (112 :: 123 :: 99 :: 111 :: 108 :: 111 :: 114 :: 58 :: (c ++ [125])))] 9 (0, 0)) = x) := ⟨_, Lib.hid rfl⟩
          rw [HW5.out]
          go_upto_region 7 with fail
          obtain ⟨x0, HX0⟩ : ∃ x, Hid (w5.alloc (.cells #[.int .i64 0, .int .i64 1, .int .i64 2] 3 (0, 0)) = x) := ⟨_, Lib.hid rfl⟩
          obtain ⟨x1, HX1⟩ : ∃ x, Hid (x0.alloc (.cells #[.int .i64 0, .int .i64 2, .int .i64 1] 3 (0, 0)) = x) := ⟨_, Lib.hid rfl⟩
          obtain ⟨x2, HX2⟩ : ∃ x, Hid (x1.alloc (.cells #[.int .i64 1, .int .i64 0, .int .i64 2] 3 (0, 0)) = x) := ⟨_, Lib.hid rfl⟩
          obtain ⟨x3, HX3⟩ : ∃ x, Hid (x2.alloc (.cells #[.int .i64 1, .int .i64 2, .int .i64 0] 3 (0, 0)) = x) := ⟨_, Lib.hid rfl⟩
          obtain ⟨x4, HX4⟩ : ∃ x, Hid (x3.alloc (.cells #[.int .i64 2, .int .i64 0, .int .i64 1] 3 (0, 0)) = x) := ⟨_, Lib.hid rfl⟩
          obtain ⟨x5, HX5⟩ : ∃ x, Hid (x4.alloc (.cells #[.int .i64 2, .int .i64 1, .int .i64 0] 3 (0, 0)) = x) := ⟨_, Lib.hid rfl⟩
          obtain ⟨x6, HX6⟩ : ∃ x, Hid (x5.alloc (.cells #[.slice (some ⟨w5.heap.size, 0, none⟩) 3 3, .slice (some ⟨w5.heap.size + 1, 0, none⟩) 3 3, .slice (some ⟨w5.heap.size + 1 + 1, 0, none⟩) 3 3, .slice (some ⟨w5.heap.size + 1 + 1 + 1, 0, none⟩) 3 3, .slice (some ⟨w5.heap.size + 1 + 1 + 1 + 1, 0, none⟩) 3 3, .slice (some ⟨w5.heap.size + 1 + 1 + 1 + 1 + 1, 0, none⟩) 3 3] 25 (0, 0)) = x) := ⟨_, Lib.hid rfl⟩
          rw [HX0.out, HX1.out, HX2.out, HX3.out, HX4.out, HX5.out, HX6.out]
          have z0 : x0.heap.size = w5.heap.size + 1 := by rw [← HX0.out]; simp
          have z1 : x1.heap.size = w5.heap.size + 1 + 1 := by rw [← HX1.out]; simp [z0]
          have z2 : x2.heap.size = w5.heap.size + 1 + 1 + 1 := by rw [← HX2.out]; simp [z1]
          have z3 : x3.heap.size = w5.heap.size + 1 + 1 + 1 + 1 := by rw [← HX3.out]; simp [z2]
          have z4 : x4.heap.size = w5.heap.size + 1 + 1 + 1 + 1 + 1 := by rw [← HX4.out]; simp [z3]
          have z5 : x5.heap.size = w5.heap.size + 1 + 1 + 1 + 1 + 1 + 1 := by rw [← HX5.out]; simp [z4]
          have y0 : Kept (fun _ => False) w5 x0 := by rw [← HX0.out]; exact (Kept.refl _ w5).alloc _
          have y1 : Kept (fun _ => False) x0 x1 := by rw [← HX1.out]; exact (Kept.refl _ x0).alloc _
          have y2 : Kept (fun _ => False) x1 x2 := by rw [← HX2.out]; exact (Kept.refl _ x1).alloc _
          have y3 : Kept (fun _ => False) x2 x3 := by rw [← HX3.out]; exact (Kept.refl _ x2).alloc _
          have y4 : Kept (fun _ => False) x3 x4 := by rw [← HX4.out]; exact (Kept.refl _ x3).alloc _
          have y5 : Kept (fun _ => False) x4 x5 := by rw [← HX5.out]; exact (Kept.refl _ x4).alloc _
          have y6 : Kept (fun _ => False) x5 x6 := by rw [← HX6.out]; exact (Kept.refl _ x5).alloc _
          have y5w : Kept (fun _ => False) w4 w5 := by rw [← HW5.out]; exact (Kept.refl _ w4).alloc _
          have yy : Kept (fun _ => False) w5 x6 := (((((y0.trans y1).trans y2).trans y3).trans y4).trans y5).trans y6
          have s0 : x6.heap[w4.heap.size]? = some (.cells #[.string (str (35 :: 113 :: 123 :: 99 :: 111 :: 108 :: 111 :: 114 :: 58 :: (a ++ [125]))), .string (str (46 :: 107 :: 123 :: 99 :: 111 :: 108 :: 111 :: 114 :: 58 :: (b ++ [125]))), .string (str (112 :: 123 :: 99 :: 111 :: 108 :: 111 :: 114 :: 58 :: (c ++ [125])))] 9 (0, 0)) := yy.heap id (by rw [← HW5.out]; exact newIn w4 _)
          have r0 : x6.heap[w5.heap.size + 1 + 1]? = some (.cells #[.int .i64 1, .int .i64 0, .int .i64 2] 3 (0, 0)) := by
            rw [← z1]
            exact (((y3.trans y4).trans y5).trans y6).heap id (by rw [← HX2.out]; exact newIn x1 _)
          have c0 : x6.cell? ⟨w5.heap.size + 1 + 1, 0, none⟩ = some (.int .i64 1) := cellIn r0 0 rfl
          have c1 : x6.cell? ⟨w5.heap.size + 1 + 1, 1, none⟩ = some (.int .i64 0) := cellIn r0 1 rfl
          have c2 : x6.cell? ⟨w5.heap.size + 1 + 1, 2, none⟩ = some (.int .i64 2) := cellIn r0 2 rfl
          obtain ⟨P0, HP0⟩ : ∃ x : B, Hid (x = 35 :: 113 :: 123 :: 99 :: 111 :: 108 :: 111 :: 114 :: 58 :: (a ++ [125])) := ⟨_, Lib.hid rfl⟩
          obtain ⟨P1, HP1⟩ : ∃ x : B, Hid (x = 46 :: 107 :: 123 :: 99 :: 111 :: 108 :: 111 :: 114 :: 58 :: (b ++ [125])) := ⟨_, Lib.hid rfl⟩
          obtain ⟨P2, HP2⟩ : ∃ x : B, Hid (x = 112 :: 123 :: 99 :: 111 :: 108 :: 111 :: 114 :: 58 :: (c ++ [125])) := ⟨_, Lib.hid rfl⟩
          have lp0 : P0.length ≤ 40 := by rw [HP0.out]; simp; omega
          have lp1 : P1.length ≤ 40 := by rw [HP1.out]; simp; omega
          have lp2 : P2.length ≤ 40 := by rw [HP2.out]; simp; omega
          have d0 : x6.cell? ⟨w4.heap.size, 0, none⟩ = some (.string (str P0)) := by rw [HP0.out]; exact cellIn s0 0 rfl
          have d1 : x6.cell? ⟨w4.heap.size, 1, none⟩ = some (.string (str P1)) := by rw [HP1.out]; exact cellIn s0 1 rfl
          have d2 : x6.cell? ⟨w4.heap.size, 2, none⟩ = some (.string (str P2)) := by rw [HP2.out]; exact cellIn s0 2 rfl
          have HKX := Lib.hid (HK4.out.trans (y5w.trans yy))
          have HC := Lib.hid (weight_texts2 HTA.out HTB.out HTC.out)
          have HF : Hid (∀ wx, wx.cell? ⟨0, 0, none⟩ = some (.int .i64 m) → Calls Tryz.prog 8 #[.string (str (60 :: 115 :: 116 :: 121 :: 108 :: 101 :: 62 :: (P1 ++ (P0 ++ (P2 ++ [60, 47, 115, 116, 121, 108, 101, 62, 60, 112, 32, 99, 108, 97, 115, 115, 61, 34, 107, 34, 32, 105, 100, 61, 34, 113, 34, 62, 120, 60, 47, 112, 62, 60, 112, 32, 99, 108, 97, 115, 115, 61, 34, 107, 34, 62, 121, 60, 47, 112, 62, 60, 112, 62, 122, 60, 47, 112, 62])))))] wx fun e w' => ∃ t, e = .returned (.tuple #[.string (str t), .agg #[.int .i64 0, .int .i64 0]]) ∧ Three a b c t ∧ Kept (fun _ => False) wx w') := Lib.hid (fun wx hw => by
            obtain ⟨l, rs, h1, h2⟩ := HC.out
            have hX : 60 :: 115 :: 116 :: 121 :: 108 :: 101 :: 62 :: (P1 ++ (P0 ++ (P2 ++ [60, 47, 115, 116, 121, 108, 101, 62, 60, 112, 32, 99, 108, 97, 115, 115, 61, 34, 107, 34, 32, 105, 100, 61, 34, 113, 34, 62, 120, 60, 47, 112, 62, 60, 112, 32, 99, 108, 97, 115, 115, 61, 34, 107, 34, 62, 121, 60, 47, 112, 62, 60, 112, 62, 122, 60, 47, 112, 62]))) = 60 :: 115 :: 116 :: 121 :: 108 :: 101 :: 62 :: 46 :: 107 :: 123 :: 99 :: 111 :: 108 :: 111 :: 114 :: 58 :: (b ++ 125 :: 35 :: 113 :: 123 :: 99 :: 111 :: 108 :: 111 :: 114 :: 58 :: (a ++ 125 :: 112 :: 123 :: 99 :: 111 :: 108 :: 111 :: 114 :: 58 :: (c ++ 125 :: 60 :: 47 :: 115 :: 116 :: 121 :: 108 :: 101 :: 62 :: 60 :: 112 :: 32 :: 99 :: 108 :: 97 :: 115 :: 115 :: 61 :: 34 :: 107 :: 34 :: 32 :: 105 :: 100 :: 61 :: 34 :: 113 :: 34 :: 62 :: 120 :: 60 :: 47 :: 112 :: 62 :: 60 :: 112 :: 32 :: 99 :: 108 :: 97 :: 115 :: 115 :: 61 :: 34 :: 107 :: 34 :: 62 :: 121 :: 60 :: 47 :: 112 :: 62 :: 60 :: 112 :: 62 :: 122 :: 60 :: 47 :: 112 :: [62]))) := by rw [HP0.out, HP1.out, HP2.out]; simp
            rw [hX]
            exact fold_law _ m wx hw (by simp; omega) h1 h2)
          have hm6 : x6.cell? ⟨0, 0, none⟩ = some (.int .i64 m) := HKX.out.cell id HM.out
          have g0 : w4.heap.size < x6.heap.size := ltIn s0
          have g1 := ltIn r0
          have g2 : 0 < x6.heap.size := by omega
          clear z0 z1 z2 z3 z4 z5 y0 y1 y2 y3 y4 y5 y6 y5w yy s0 r0
          have e1 : (9223372036854775807 < 7 + P1.length) = False := by simp; omega
          have e2 : (9223372036854775807 < P1.length + 1 + 1 + 1 + 1 + 1 + 1 + 1 + P0.length) = False := by simp; omega
          have e3 : (9223372036854775807 < P1.length + P0.length + 1 + 1 + 1 + 1 + 1 + 1 + 1 + P2.length) = False := by simp; omega
          have e4 : (9223372036854775807 < P1.length + (P0.length + P2.length) + 1 + 1 + 1 + 1 + 1 + 1 + 1 + 59) = False := by simp; omega
          go_cut [11, 12] (fun v p wx => ∃ tt box, v = .string (str tt) ∧ p = .pointer (some ⟨box, 0, none⟩) ∧ Hid (Three a b c tt) ∧ Hid (Kept (fun _ => False) w wx) ∧ Hid (wx.heap[box]? = some (.cells #[.int .i64 0, .int .i64 0] 29 (0, 0))))
          case first =>
            go_region_held3 (fun w' => w'.cell? ⟨w5.heap.size + 1 + 1, 0, none⟩ = some (.int .i64 1) ∧ w'.cell? ⟨w5.heap.size + 1 + 1, 1, none⟩ = some (.int .i64 0) ∧ w'.cell? ⟨w5.heap.size + 1 + 1, 2, none⟩ = some (.int .i64 2) ∧ w'.cell? ⟨w4.heap.size, 0, none⟩ = some (.string (str P0)) ∧ w'.cell? ⟨w4.heap.size, 1, none⟩ = some (.string (str P1)) ∧ w'.cell? ⟨w4.heap.size, 2, none⟩ = some (.string (str P2)) ∧ w'.cell? ⟨0, 0, none⟩ = some (.int .i64 m)) (first | go_keep | (go_split_ands; refine ⟨Kept.cell (S := fun _ => False) (a := x6) ?_ id c0, Kept.cell (S := fun _ => False) (a := x6) ?_ id c1, Kept.cell (S := fun _ => False) (a := x6) ?_ id c2, Kept.cell (S := fun _ => False) (a := x6) ?_ id d0, Kept.cell (S := fun _ => False) (a := x6) ?_ id d1, Kept.cell (S := fun _ => False) (a := x6) ?_ id d2, Kept.cell (S := fun _ => False) (a := x6) ?_ id hm6⟩ <;> (first | exact (hx.setCell (.inr (Nat.le_refl _)) _).setCell (.inr (Nat.le_refl _)) _ | exact (hx.alloc _).setCell (.inr hx.size) _ | exact hx.alloc _ | exact hx | exact hx.drew)))
              ((go_at_call 8; refine (HF.out _ (by first | assumption | exact (((Kept.refl (fun _ => False) x6).alloc _).drew).cell id hm6 | exact ((Kept.refl (fun _ => False) x6).alloc _).cell id hm6 | exact ((Kept.refl (fun _ => False) x6).drew).cell id hm6)).mono ?_; rintro e w7 ⟨t, rfl, ht7, hk7⟩; (try (have hq := hk7.heap id (newIn x6 (.cells #[.int .i64 0, .int .i64 0] 29 (0, 0))); have qc0 := cellIn hq 0 rfl; have qc1 := cellIn hq 1 rfl; have qf0 := freeIn hq 0; have qf1 := freeIn hq 1; replace hq := Lib.hid hq)); (have hx : Kept (fun _ => False) x6 w7 := by first | exact (((Kept.refl _ x6).alloc _).drew).trans hk7 | exact ((Kept.refl _ x6).alloc _).trans hk7 | exact ((Kept.refl _ x6).drew).trans hk7 | exact (Kept.refl _ x6).trans hk7)))
            all_goals
              first
                | (go_wp2_with fail
                   go_meet)
                | go_meet
            all_goals
              first
                | exact ⟨_, _, rfl, rfl, Lib.hid ht7, Lib.hid (HKX.out.trans (hx.alloc _)), Lib.hid (newIn w7 _)⟩
                | exact ⟨_, _, rfl, rfl, Lib.hid ht7, Lib.hid (HKX.out.trans ((hx.setCell (.inr (Nat.le_refl _)) _).setCell (.inr (Nat.le_refl _)) _)), Lib.hid (heap_two hq.out)⟩
          case rest =>
            obtain ⟨tt, bx, rfl, rfl, HT3, HKR, HBX⟩ := hcut
            obtain ⟨htl, ms, n1, n2, n3, hp, hn1, hn2, hn3, hv1, hv2, hv3⟩ := HT3.out
            have HS1 := fun wx (hk : Kept (fun _ => False) w wx) => styleT_any tt ms 1 n1 hp hn1 m wx (hk.cell id HM.out) (by omega)
            have HS2 := fun wx (hk : Kept (fun _ => False) w wx) => styleT_any tt ms 2 n2 hp hn2 m wx (hk.cell id HM.out) (by omega)
            have HS3 := fun wx (hk : Kept (fun _ => False) w wx) => styleT_any tt ms 3 n3 hp hn3 m wx (hk.cell id HM.out) (by omega)
            rw [hv1] at HS1
            rw [hv2] at HS2
            rw [hv3] at HS3
            replace HS1 := Lib.hid HS1
            replace HS2 := Lib.hid HS2
            replace HS3 := Lib.hid HS3
            clear htl hp hn1 hn2 hn3 hv1 hv2 hv3 HT3
            go_wp2_with fail
            refine (HS1.out _ HKR.out).mono ?_
            rintro e w8 ⟨rfl, hk8⟩
            have HK8 := Lib.hid (HKR.out.trans hk8)
            have HB8 := Lib.hid (hk8.heap id HBX.out)
            clear hk8
            go_wp2_with fail
            refine (HS2.out _ HK8.out).mono ?_
            rintro e w9 ⟨rfl, hk9⟩
            have HK9 := Lib.hid (HK8.out.trans hk9)
            have HB9 := Lib.hid (hk9.heap id HB8.out)
            clear hk9
            go_wp2_with fail
            refine (HS3.out _ HK9.out).mono ?_
            rintro e w10 ⟨rfl, hk10⟩
            have HK10 := Lib.hid (HK9.out.trans hk10)
            have b0 : w10.cell? ⟨bx, 0, none⟩ = some (.int .i64 0) := cellIn (hk10.heap id HB9.out) 0 rfl
            clear hk10
            go_wp2_with fail
            go_ret
            exact ⟨rfl, HK10.out⟩
        · go_upto_region 6 with fail
          obtain ⟨w5, HW5⟩ : ∃ x, Hid (w4.alloc (.cells #[.string (str (35 :: 113 :: 123 :: 99 :: 111 :: 108 :: 111 :: 114 :: 58 :: (a ++ [125]))), .string (str (46 :: 107 :: 123 :: 99 :: 111 :: 108 :: 111 :: 114 :: 58 :: (b ++ [125]))), .string (str (112 :: 123 :: 99 :: 111 :: 108 :: 111 :: 114 :: 58 :: (c ++ [125])))] 9 (0, 0)) = x) := ⟨_, Lib.hid rfl⟩
          rw [HW5.out]
          go_upto_region 7 with fail
          obtain ⟨x0, HX0⟩ : ∃ x, Hid (w5.alloc (.cells #[.int .i64 0, .int .i64 1, .int .i64 2] 3 (0, 0)) = x) := ⟨_, Lib.hid rfl⟩
          obtain ⟨x1, HX1⟩ : ∃ x, Hid (x0.alloc (.cells #[.int .i64 0, .int .i64 2, .int .i64 1] 3 (0, 0)) = x) := ⟨_, Lib.hid rfl⟩
          obtain ⟨x2, HX2⟩ : ∃ x, Hid (x1.alloc (.cells #[.int .i64 1, .int .i64 0, .int .i64 2] 3 (0, 0)) = x) := ⟨_, Lib.hid rfl⟩
          obtain ⟨x3, HX3⟩ : ∃ x, Hid (x2.alloc (.cells #[.int .i64 1, .int .i64 2, .int .i64 0] 3 (0, 0)) = x) := ⟨_, Lib.hid rfl⟩
          obtain ⟨x4, HX4⟩ : ∃ x, Hid (x3.alloc (.cells #[.int .i64 2, .int .i64 0, .int .i64 1] 3 (0, 0)) = x) := ⟨_, Lib.hid rfl⟩
          obtain ⟨x5, HX5⟩ : ∃ x, Hid (x4.alloc (.cells #[.int .i64 2, .int .i64 1, .int .i64 0] 3 (0, 0)) = x) := ⟨_, Lib.hid rfl⟩
          obtain ⟨x6, HX6⟩ : ∃ x, Hid (x5.alloc (.cells #[.slice (some ⟨w5.heap.size, 0, none⟩) 3 3, .slice (some ⟨w5.heap.size + 1, 0, none⟩) 3 3, .slice (some ⟨w5.heap.size + 1 + 1, 0, none⟩) 3 3, .slice (some ⟨w5.heap.size + 1 + 1 + 1, 0, none⟩) 3 3, .slice (some ⟨w5.heap.size + 1 + 1 + 1 + 1, 0, none⟩) 3 3, .slice (some ⟨w5.heap.size + 1 + 1 + 1 + 1 + 1, 0, none⟩) 3 3] 25 (0, 0)) = x) := ⟨_, Lib.hid rfl⟩
          rw [HX0.out, HX1.out, HX2.out, HX3.out, HX4.out, HX5.out, HX6.out]
          have z0 : x0.heap.size = w5.heap.size + 1 := by rw [← HX0.out]; simp
          have z1 : x1.heap.size = w5.heap.size + 1 + 1 := by rw [← HX1.out]; simp [z0]
          have z2 : x2.heap.size = w5.heap.size + 1 + 1 + 1 := by rw [← HX2.out]; simp [z1]
          have z3 : x3.heap.size = w5.heap.size + 1 + 1 + 1 + 1 := by rw [← HX3.out]; simp [z2]
          have z4 : x4.heap.size = w5.heap.size + 1 + 1 + 1 + 1 + 1 := by rw [← HX4.out]; simp [z3]
          have z5 : x5.heap.size = w5.heap.size + 1 + 1 + 1 + 1 + 1 + 1 := by rw [← HX5.out]; simp [z4]
          have y0 : Kept (fun _ => False) w5 x0 := by rw [← HX0.out]; exact (Kept.refl _ w5).alloc _
          have y1 : Kept (fun _ => False) x0 x1 := by rw [← HX1.out]; exact (Kept.refl _ x0).alloc _
          have y2 : Kept (fun _ => False) x1 x2 := by rw [← HX2.out]; exact (Kept.refl _ x1).alloc _
          have y3 : Kept (fun _ => False) x2 x3 := by rw [← HX3.out]; exact (Kept.refl _ x2).alloc _
          have y4 : Kept (fun _ => False) x3 x4 := by rw [← HX4.out]; exact (Kept.refl _ x3).alloc _
          have y5 : Kept (fun _ => False) x4 x5 := by rw [← HX5.out]; exact (Kept.refl _ x4).alloc _
          have y6 : Kept (fun _ => False) x5 x6 := by rw [← HX6.out]; exact (Kept.refl _ x5).alloc _
          have y5w : Kept (fun _ => False) w4 w5 := by rw [← HW5.out]; exact (Kept.refl _ w4).alloc _
          have yy : Kept (fun _ => False) w5 x6 := (((((y0.trans y1).trans y2).trans y3).trans y4).trans y5).trans y6
          have s0 : x6.heap[w4.heap.size]? = some (.cells #[.string (str (35 :: 113 :: 123 :: 99 :: 111 :: 108 :: 111 :: 114 :: 58 :: (a ++ [125]))), .string (str (46 :: 107 :: 123 :: 99 :: 111 :: 108 :: 111 :: 114 :: 58 :: (b ++ [125]))), .string (str (112 :: 123 :: 99 :: 111 :: 108 :: 111 :: 114 :: 58 :: (c ++ [125])))] 9 (0, 0)) := yy.heap id (by rw [← HW5.out]; exact newIn w4 _)
          have r0 : x6.heap[w5.heap.size + 1 + 1 + 1]? = some (.cells #[.int .i64 1, .int .i64 2, .int .i64 0] 3 (0, 0)) := by
            rw [← z2]
            exact ((y4.trans y5).trans y6).heap id (by rw [← HX3.out]; exact newIn x2 _)
          have c0 : x6.cell? ⟨w5.heap.size + 1 + 1 + 1, 0, none⟩ = some (.int .i64 1) := cellIn r0 0 rfl
          have c1 : x6.cell? ⟨w5.heap.size + 1 + 1 + 1, 1, none⟩ = some (.int .i64 2) := cellIn r0 1 rfl
          have c2 : x6.cell? ⟨w5.heap.size + 1 + 1 + 1, 2, none⟩ = some (.int .i64 0) := cellIn r0 2 rfl
          obtain ⟨P0, HP0⟩ : ∃ x : B, Hid (x = 35 :: 113 :: 123 :: 99 :: 111 :: 108 :: 111 :: 114 :: 58 :: (a ++ [125])) := ⟨_, Lib.hid rfl⟩
          obtain ⟨P1, HP1⟩ : ∃ x : B, Hid (x = 46 :: 107 :: 123 :: 99 :: 111 :: 108 :: 111 :: 114 :: 58 :: (b ++ [125])) := ⟨_, Lib.hid rfl⟩
          obtain ⟨P2, HP2⟩ : ∃ x : B, Hid (x = 112 :: 123 :: 99 :: 111 :: 108 :: 111 :: 114 :: 58 :: (c ++ [125])) := ⟨_, Lib.hid rfl⟩
          have lp0 : P0.length ≤ 40 := by rw [HP0.out]; simp; omega
          have lp1 : P1.length ≤ 40 := by rw [HP1.out]; simp; omega
          have lp2 : P2.length ≤ 40 := by rw [HP2.out]; simp; omega
          have d0 : x6.cell? ⟨w4.heap.size, 0, none⟩ = some (.string (str P0)) := by rw [HP0.out]; exact cellIn s0 0 rfl
          have d1 : x6.cell? ⟨w4.heap.size, 1, none⟩ = some (.string (str P1)) := by rw [HP1.out]; exact cellIn s0 1 rfl
          have d2 : x6.cell? ⟨w4.heap.size, 2, none⟩ = some (.string (str P2)) := by rw [HP2.out]; exact cellIn s0 2 rfl
          have HKX := Lib.hid (HK4.out.trans (y5w.trans yy))
          have HC := Lib.hid (weight_texts3 HTA.out HTB.out HTC.out)
          have HF : Hid (∀ wx, wx.cell? ⟨0, 0, none⟩ = some (.int .i64 m) → Calls Tryz.prog 8 #[.string (str (60 :: 115 :: 116 :: 121 :: 108 :: 101 :: 62 :: (P1 ++ (P2 ++ (P0 ++ [60, 47, 115, 116, 121, 108, 101, 62, 60, 112, 32, 99, 108, 97, 115, 115, 61, 34, 107, 34, 32, 105, 100, 61, 34, 113, 34, 62, 120, 60, 47, 112, 62, 60, 112, 32, 99, 108, 97, 115, 115, 61, 34, 107, 34, 62, 121, 60, 47, 112, 62, 60, 112, 62, 122, 60, 47, 112, 62])))))] wx fun e w' => ∃ t, e = .returned (.tuple #[.string (str t), .agg #[.int .i64 0, .int .i64 0]]) ∧ Three a b c t ∧ Kept (fun _ => False) wx w') := Lib.hid (fun wx hw => by
            obtain ⟨l, rs, h1, h2⟩ := HC.out
            have hX : 60 :: 115 :: 116 :: 121 :: 108 :: 101 :: 62 :: (P1 ++ (P2 ++ (P0 ++ [60, 47, 115, 116, 121, 108, 101, 62, 60, 112, 32, 99, 108, 97, 115, 115, 61, 34, 107, 34, 32, 105, 100, 61, 34, 113, 34, 62, 120, 60, 47, 112, 62, 60, 112, 32, 99, 108, 97, 115, 115, 61, 34, 107, 34, 62, 121, 60, 47, 112, 62, 60, 112, 62, 122, 60, 47, 112, 62]))) = 60 :: 115 :: 116 :: 121 :: 108 :: 101 :: 62 :: 46 :: 107 :: 123 :: 99 :: 111 :: 108 :: 111 :: 114 :: 58 :: (b ++ 125 :: 112 :: 123 :: 99 :: 111 :: 108 :: 111 :: 114 :: 58 :: (c ++ 125 :: 35 :: 113 :: 123 :: 99 :: 111 :: 108 :: 111 :: 114 :: 58 :: (a ++ 125 :: 60 :: 47 :: 115 :: 116 :: 121 :: 108 :: 101 :: 62 :: 60 :: 112 :: 32 :: 99 :: 108 :: 97 :: 115 :: 115 :: 61 :: 34 :: 107 :: 34 :: 32 :: 105 :: 100 :: 61 :: 34 :: 113 :: 34 :: 62 :: 120 :: 60 :: 47 :: 112 :: 62 :: 60 :: 112 :: 32 :: 99 :: 108 :: 97 :: 115 :: 115 :: 61 :: 34 :: 107 :: 34 :: 62 :: 121 :: 60 :: 47 :: 112 :: 62 :: 60 :: 112 :: 62 :: 122 :: 60 :: 47 :: 112 :: [62]))) := by rw [HP0.out, HP1.out, HP2.out]; simp
            rw [hX]
            exact fold_law _ m wx hw (by simp; omega) h1 h2)
          have hm6 : x6.cell? ⟨0, 0, none⟩ = some (.int .i64 m) := HKX.out.cell id HM.out
          have g0 : w4.heap.size < x6.heap.size := ltIn s0
          have g1 := ltIn r0
          have g2 : 0 < x6.heap.size := by omega
          clear z0 z1 z2 z3 z4 z5 y0 y1 y2 y3 y4 y5 y6 y5w yy s0 r0
          have e1 : (9223372036854775807 < 7 + P1.length) = False := by simp; omega
          have e2 : (9223372036854775807 < P1.length + 1 + 1 + 1 + 1 + 1 + 1 + 1 + P2.length) = False := by simp; omega
          have e3 : (9223372036854775807 < P1.length + P2.length + 1 + 1 + 1 + 1 + 1 + 1 + 1 + P0.length) = False := by simp; omega
          have e4 : (9223372036854775807 < P1.length + (P2.length + P0.length) + 1 + 1 + 1 + 1 + 1 + 1 + 1 + 59) = False := by simp; omega
          go_cut [11, 12] (fun v p wx => ∃ tt box, v = .string (str tt) ∧ p = .pointer (some ⟨box, 0, none⟩) ∧ Hid (Three a b c tt) ∧ Hid (Kept (fun _ => False) w wx) ∧ Hid (wx.heap[box]? = some (.cells #[.int .i64 0, .int .i64 0] 29 (0, 0))))
          case first =>
            go_region_held3 (fun w' => w'.cell? ⟨w5.heap.size + 1 + 1 + 1, 0, none⟩ = some (.int .i64 1) ∧ w'.cell? ⟨w5.heap.size + 1 + 1 + 1, 1, none⟩ = some (.int .i64 2) ∧ w'.cell? ⟨w5.heap.size + 1 + 1 + 1, 2, none⟩ = some (.int .i64 0) ∧ w'.cell? ⟨w4.heap.size, 0, none⟩ = some (.string (str P0)) ∧ w'.cell? ⟨w4.heap.size, 1, none⟩ = some (.string (str P1)) ∧ w'.cell? ⟨w4.heap.size, 2, none⟩ = some (.string (str P2)) ∧ w'.cell? ⟨0, 0, none⟩ = some (.int .i64 m)) (first | go_keep | (go_split_ands; refine ⟨Kept.cell (S := fun _ => False) (a := x6) ?_ id c0, Kept.cell (S := fun _ => False) (a := x6) ?_ id c1, Kept.cell (S := fun _ => False) (a := x6) ?_ id c2, Kept.cell (S := fun _ => False) (a := x6) ?_ id d0, Kept.cell (S := fun _ => False) (a := x6) ?_ id d1, Kept.cell (S := fun _ => False) (a := x6) ?_ id d2, Kept.cell (S := fun _ => False) (a := x6) ?_ id hm6⟩ <;> (first | exact (hx.setCell (.inr (Nat.le_refl _)) _).setCell (.inr (Nat.le_refl _)) _ | exact (hx.alloc _).setCell (.inr hx.size) _ | exact hx.alloc _ | exact hx | exact hx.drew)))
              ((go_at_call 8; refine (HF.out _ (by first | assumption | exact (((Kept.refl (fun _ => False) x6).alloc _).drew).cell id hm6 | exact ((Kept.refl (fun _ => False) x6).alloc _).cell id hm6 | exact ((Kept.refl (fun _ => False) x6).drew).cell id hm6)).mono ?_; rintro e w7 ⟨t, rfl, ht7, hk7⟩; (try (have hq := hk7.heap id (newIn x6 (.cells #[.int .i64 0, .int .i64 0] 29 (0, 0))); have qc0 := cellIn hq 0 rfl; have qc1 := cellIn hq 1 rfl; have qf0 := freeIn hq 0; have qf1 := freeIn hq 1; replace hq := Lib.hid hq)); (have hx : Kept (fun _ => False) x6 w7 := by first | exact (((Kept.refl _ x6).alloc _).drew).trans hk7 | exact ((Kept.refl _ x6).alloc _).trans hk7 | exact ((Kept.refl _ x6).drew).trans hk7 | exact (Kept.refl _ x6).trans hk7)))
            all_goals
              first
                | (go_wp2_with fail
                   go_meet)
                | go_meet
            all_goals
              first
                | exact ⟨_, _, rfl, rfl, Lib.hid ht7, Lib.hid (HKX.out.trans (hx.alloc _)), Lib.hid (newIn w7 _)⟩
                | exact ⟨_, _, rfl, rfl, Lib.hid ht7, Lib.hid (HKX.out.trans ((hx.setCell (.inr (Nat.le_refl _)) _).setCell (.inr (Nat.le_refl _)) _)), Lib.hid (heap_two hq.out)⟩
          case rest =>
            obtain ⟨tt, bx, rfl, rfl, HT3, HKR, HBX⟩ := hcut
            obtain ⟨htl, ms, n1, n2, n3, hp, hn1, hn2, hn3, hv1, hv2, hv3⟩ := HT3.out
            have HS1 := fun wx (hk : Kept (fun _ => False) w wx) => styleT_any tt ms 1 n1 hp hn1 m wx (hk.cell id HM.out) (by omega)
            have HS2 := fun wx (hk : Kept (fun _ => False) w wx) => styleT_any tt ms 2 n2 hp hn2 m wx (hk.cell id HM.out) (by omega)
            have HS3 := fun wx (hk : Kept (fun _ => False) w wx) => styleT_any tt ms 3 n3 hp hn3 m wx (hk.cell id HM.out) (by omega)
            rw [hv1] at HS1
            rw [hv2] at HS2
            rw [hv3] at HS3
            replace HS1 := Lib.hid HS1
            replace HS2 := Lib.hid HS2
            replace HS3 := Lib.hid HS3
            clear htl hp hn1 hn2 hn3 hv1 hv2 hv3 HT3
            go_wp2_with fail
            refine (HS1.out _ HKR.out).mono ?_
            rintro e w8 ⟨rfl, hk8⟩
            have HK8 := Lib.hid (HKR.out.trans hk8)
            have HB8 := Lib.hid (hk8.heap id HBX.out)
            clear hk8
            go_wp2_with fail
            refine (HS2.out _ HK8.out).mono ?_
            rintro e w9 ⟨rfl, hk9⟩
            have HK9 := Lib.hid (HK8.out.trans hk9)
            have HB9 := Lib.hid (hk9.heap id HB8.out)
            clear hk9
            go_wp2_with fail
            refine (HS3.out _ HK9.out).mono ?_
            rintro e w10 ⟨rfl, hk10⟩
            have HK10 := Lib.hid (HK9.out.trans hk10)
            have b0 : w10.cell? ⟨bx, 0, none⟩ = some (.int .i64 0) := cellIn (hk10.heap id HB9.out) 0 rfl
            clear hk10
            go_wp2_with fail
            go_ret
            exact ⟨rfl, HK10.out⟩
        · go_upto_region 6 with fail
          obtain ⟨w5, HW5⟩ : ∃ x, Hid (w4.alloc (.cells #[.string (str (35 :: 113 :: 123 :: 99 :: 111 :: 108 :: 111 :: 114 :: 58 :: (a ++ [125]))), .string (str (46 :: 107 :: 123 :: 99 :: 111 :: 108 :: 111 :: 114 :: 58 :: (b ++ [125]))), .string (str (112 :: 123 :: 99 :: 111 :: 108 :: 111 :: 114 :: 58 :: (c ++ [125])))] 9 (0, 0)) = x) := ⟨_, Lib.hid rfl⟩
          rw [HW5.out]
          go_upto_region 7 with fail
          obtain ⟨x0, HX0⟩ : ∃ x, Hid (w5.alloc (.cells #[.int .i64 0, .int .i64 1, .int .i64 2] 3 (0, 0)) = x) := ⟨_, Lib.hid rfl⟩
          obtain ⟨x1, HX1⟩ : ∃ x, Hid (x0.alloc (.cells #[.int .i64 0, .int .i64 2, .int .i64 1] 3 (0, 0)) = x) := ⟨_, Lib.hid rfl⟩
          obtain ⟨x2, HX2⟩ : ∃ x, Hid (x1.alloc (.cells #[.int .i64 1, .int .i64 0, .int .i64 2] 3 (0, 0)) = x) := ⟨_, Lib.hid rfl⟩
          obtain ⟨x3, HX3⟩ : ∃ x, Hid (x2.alloc (.cells #[.int .i64 1, .int .i64 2, .int .i64 0] 3 (0, 0)) = x) := ⟨_, Lib.hid rfl⟩
          obtain ⟨x4, HX4⟩ : ∃ x, Hid (x3.alloc (.cells #[.int .i64 2, .int .i64 0, .int .i64 1] 3 (0, 0)) = x) := ⟨_, Lib.hid rfl⟩
          obtain ⟨x5, HX5⟩ : ∃ x, Hid (x4.alloc (.cells #[.int .i64 2, .int .i64 1, .int .i64 0] 3 (0, 0)) = x) := ⟨_, Lib.hid rfl⟩
          obtain ⟨x6, HX6⟩ : ∃ x, Hid (x5.alloc (.cells #[.slice (some ⟨w5.heap.size, 0, none⟩) 3 3, .slice (some ⟨w5.heap.size + 1, 0, none⟩) 3 3, .slice (some ⟨w5.heap.size + 1 + 1, 0, none⟩) 3 3, .slice (some ⟨w5.heap.size + 1 + 1 + 1, 0, none⟩) 3 3, .slice (some ⟨w5.heap.size + 1 + 1 + 1 + 1, 0, none⟩) 3 3, .slice (some ⟨w5.heap.size + 1 + 1 + 1 + 1 + 1, 0, none⟩) 3 3] 25 (0, 0)) = x) := ⟨_, Lib.hid rfl⟩
          rw [HX0.out, HX1.out, HX2.out, HX3.out, HX4.out, HX5.out, HX6.out]
          have z0 : x0.heap.size = w5.heap.size + 1 := by rw [← HX0.out]; simp
          have z1 : x1.heap.size = w5.heap.size + 1 + 1 := by rw [← HX1.out]; simp [z0]
          have z2 : x2.heap.size = w5.heap.size + 1 + 1 + 1 := by rw [← HX2.out]; simp [z1]
          have z3 : x3.heap.size = w5.heap.size + 1 + 1 + 1 + 1 := by rw [← HX3.out]; simp [z2]
          have z4 : x4.heap.size = w5.heap.size + 1 + 1 + 1 + 1 + 1 := by rw [← HX4.out]; simp [z3]
          have z5 : x5.heap.size = w5.heap.size + 1 + 1 + 1 + 1 + 1 + 1 := by rw [← HX5.out]; simp [z4]
          have y0 : Kept (fun _ => False) w5 x0 := by rw [← HX0.out]; exact (Kept.refl _ w5).alloc _
          have y1 : Kept (fun _ => False) x0 x1 := by rw [← HX1.out]; exact (Kept.refl _ x0).alloc _
          have y2 : Kept (fun _ => False) x1 x2 := by rw [← HX2.out]; exact (Kept.refl _ x1).alloc _
          have y3 : Kept (fun _ => False) x2 x3 := by rw [← HX3.out]; exact (Kept.refl _ x2).alloc _
          have y4 : Kept (fun _ => False) x3 x4 := by rw [← HX4.out]; exact (Kept.refl _ x3).alloc _
          have y5 : Kept (fun _ => False) x4 x5 := by rw [← HX5.out]; exact (Kept.refl _ x4).alloc _
          have y6 : Kept (fun _ => False) x5 x6 := by rw [← HX6.out]; exact (Kept.refl _ x5).alloc _
          have y5w : Kept (fun _ => False) w4 w5 := by rw [← HW5.out]; exact (Kept.refl _ w4).alloc _
          have yy : Kept (fun _ => False) w5 x6 := (((((y0.trans y1).trans y2).trans y3).trans y4).trans y5).trans y6
          have s0 : x6.heap[w4.heap.size]? = some (.cells #[.string (str (35 :: 113 :: 123 :: 99 :: 111 :: 108 :: 111 :: 114 :: 58 :: (a ++ [125]))), .string (str (46 :: 107 :: 123 :: 99 :: 111 :: 108 :: 111 :: 114 :: 58 :: (b ++ [125]))), .string (str (112 :: 123 :: 99 :: 111 :: 108 :: 111 :: 114 :: 58 :: (c ++ [125])))] 9 (0, 0)) := yy.heap id (by rw [← HW5.out]; exact newIn w4 _)
          have r0 : x6.heap[w5.heap.size + 1 + 1 + 1 + 1]? = some (.cells #[.int .i64 2, .int .i64 0, .int .i64 1] 3 (0, 0)) := by
            rw [← z3]
            exact (y5.trans y6).heap id (by rw [← HX4.out]; exact newIn x3 _)
          have c0 : x6.cell? ⟨w5.heap.size + 1 + 1 + 1 + 1, 0, none⟩ = some (.int .i64 2) := cellIn r0 0 rfl
          have c1 : x6.cell? ⟨w5.heap.size + 1 + 1 + 1 + 1, 1, none⟩ = some (.int .i64 0) := cellIn r0 1 rfl
          have c2 : x6.cell? ⟨w5.heap.size + 1 + 1 + 1 + 1, 2, none⟩ = some (.int .i64 1) := cellIn r0 2 rfl
          obtain ⟨P0, HP0⟩ : ∃ x : B, Hid (x = 35 :: 113 :: 123 :: 99 :: 111 :: 108 :: 111 :: 114 :: 58 :: (a ++ [125])) := ⟨_, Lib.hid rfl⟩
          obtain ⟨P1, HP1⟩ : ∃ x : B, Hid (x = 46 :: 107 :: 123 :: 99 :: 111 :: 108 :: 111 :: 114 :: 58 :: (b ++ [125])) := ⟨_, Lib.hid rfl⟩
          obtain ⟨P2, HP2⟩ : ∃ x : B, Hid (x = 112 :: 123 :: 99 :: 111 :: 108 :: 111 :: 114 :: 58 :: (c ++ [125])) := ⟨_, Lib.hid rfl⟩
          have lp0 : P0.length ≤ 40 := by rw [HP0.out]; simp; omega
          have lp1 : P1.length ≤ 40 := by rw [HP1.out]; simp; omega
          have lp2 : P2.length ≤ 40 := by rw [HP2.out]; simp; omega
          have d0 : x6.cell? ⟨w4.heap.size, 0, none⟩ = some (.string (str P0)) := by rw [HP0.out]; exact cellIn s0 0 rfl
          have d1 : x6.cell? ⟨w4.heap.size, 1, none⟩ = some (.string (str P1)) := by rw [HP1.out]; exact cellIn s0 1 rfl
          have d2 : x6.cell? ⟨w4.heap.size, 2, none⟩ = some (.string (str P2)) := by rw [HP2.out]; exact cellIn s0 2 rfl
          have HKX := Lib.hid (HK4.out.trans (y5w.trans yy))
          have HC := Lib.hid (weight_texts4 HTA.out HTB.out HTC.out)
          have HF : Hid (∀ wx, wx.cell? ⟨0, 0, none⟩ = some (.int .i64 m) → Calls Tryz.prog 8 #[.string (str (60 :: 115 :: 116 :: 121 :: 108 :: 101 :: 62 :: (P2 ++ (P0 ++ (P1 ++ [60, 47, 115, 116, 121, 108, 101, 62, 60, 112, 32, 99, 108, 97, 115, 115, 61, 34, 107, 34, 32, 105, 100, 61, 34, 113, 34, 62, 120, 60, 47, 112, 62, 60, 112, 32, 99, 108, 97, 115, 115, 61, 34, 107, 34, 62, 121, 60, 47, 112, 62, 60, 112, 62, 122, 60, 47, 112, 62])))))] wx fun e w' => ∃ t, e = .returned (.tuple #[.string (str t), .agg #[.int .i64 0, .int .i64 0]]) ∧ Three a b c t ∧ Kept (fun _ => False) wx w') := Lib.hid (fun wx hw => by
            obtain ⟨l, rs, h1, h2⟩ := HC.out
            have hX : 60 :: 115 :: 116 :: 121 :: 108 :: 101 :: 62 :: (P2 ++ (P0 ++ (P1 ++ [60, 47, 115, 116, 121, 108, 101, 62, 60, 112, 32, 99, 108, 97, 115, 115, 61, 34, 107, 34, 32, 105, 100, 61, 34, 113, 34, 62, 120, 60, 47, 112, 62, 60, 112, 32, 99, 108, 97, 115, 115, 61, 34, 107, 34, 62, 121, 60, 47, 112, 62, 60, 112, 62, 122, 60, 47, 112, 62]))) = 60 :: 115 :: 116 :: 121 :: 108 :: 101 :: 62 :: 112 :: 123 :: 99 :: 111 :: 108 :: 111 :: 114 :: 58 :: (c ++ 125 :: 35 :: 113 :: 123 :: 99 :: 111 :: 108 :: 111 :: 114 :: 58 :: (a ++ 125 :: 46 :: 107 :: 123 :: 99 :: 111 :: 108 :: 111 :: 114 :: 58 :: (b ++ 125 :: 60 :: 47 :: 115 :: 116 :: 121 :: 108 :: 101 :: 62 :: 60 :: 112 :: 32 :: 99 :: 108 :: 97 :: 115 :: 115 :: 61 :: 34 :: 107 :: 34 :: 32 :: 105 :: 100 :: 61 :: 34 :: 113 :: 34 :: 62 :: 120 :: 60 :: 47 :: 112 :: 62 :: 60 :: 112 :: 32 :: 99 :: 108 :: 97 :: 115 :: 115 :: 61 :: 34 :: 107 :: 34 :: 62 :: 121 :: 60 :: 47 :: 112 :: 62 :: 60 :: 112 :: 62 :: 122 :: 60 :: 47 :: 112 :: [62]))) := by rw [HP0.out, HP1.out, HP2.out]; simp
            rw [hX]
            exact fold_law _ m wx hw (by simp; omega) h1 h2)
          have hm6 : x6.cell? ⟨0, 0, none⟩ = some (.int .i64 m) := HKX.out.cell id HM.out
          have g0 : w4.heap.size < x6.heap.size := ltIn s0
          have g1 := ltIn r0
          have g2 : 0 < x6.heap.size := by omega
          clear z0 z1 z2 z3 z4 z5 y0 y1 y2 y3 y4 y5 y6 y5w yy s0 r0
          have e1 : (9223372036854775807 < 7 + P2.length) = False := by simp; omega
          have e2 : (9223372036854775807 < P2.length + 1 + 1 + 1 + 1 + 1 + 1 + 1 + P0.length) = False := by simp; omega
          have e3 : (9223372036854775807 < P2.length + P0.length + 1 + 1 + 1 + 1 + 1 + 1 + 1 + P1.length) = False := by simp; omega
          have e4 : (9223372036854775807 < P2.length + (P0.length + P1.length) + 1 + 1 + 1 + 1 + 1 + 1 + 1 + 59) = False := by simp; omega
          go_cut [11, 12] (fun v p wx => ∃ tt box, v = .string (str tt) ∧ p = .pointer (some ⟨box, 0, none⟩) ∧ Hid (Three a b c tt) ∧ Hid (Kept (fun _ => False) w wx) ∧ Hid (wx.heap[box]? = some (.cells #[.int .i64 0, .int .i64 0] 29 (0, 0))))
          case first =>
            go_region_held3 (fun w' => w'.cell? ⟨w5.heap.size + 1 + 1 + 1 + 1, 0, none⟩ = some (.int .i64 2) ∧ w'.cell? ⟨w5.heap.size + 1 + 1 + 1 + 1, 1, none⟩ = some (.int .i64 0) ∧ w'.cell? ⟨w5.heap.size + 1 + 1 + 1 + 1, 2, none⟩ = some (.int .i64 1) ∧ w'.cell? ⟨w4.heap.size, 0, none⟩ = some (.string (str P0)) ∧ w'.cell? ⟨w4.heap.size, 1, none⟩ = some (.string (str P1)) ∧ w'.cell? ⟨w4.heap.size, 2, none⟩ = some (.string (str P2)) ∧ w'.cell? ⟨0, 0, none⟩ = some (.int .i64 m)) (first | go_keep | (go_split_ands; refine ⟨Kept.cell (S := fun _ => False) (a := x6) ?_ id c0, Kept.cell (S := fun _ => False) (a := x6) ?_ id c1, Kept.cell (S := fun _ => False) (a := x6) ?_ id c2, Kept.cell (S := fun _ => False) (a := x6) ?_ id d0, Kept.cell (S := fun _ => False) (a := x6) ?_ id d1, Kept.cell (S := fun _ => False) (a := x6) ?_ id d2, Kept.cell (S := fun _ => False) (a := x6) ?_ id hm6⟩ <;> (first | exact (hx.setCell (.inr (Nat.le_refl _)) _).setCell (.inr (Nat.le_refl _)) _ | exact (hx.alloc _).setCell (.inr hx.size) _ | exact hx.alloc _ | exact hx | exact hx.drew)))
              ((go_at_call 8; refine (HF.out _ (by first | assumption | exact (((Kept.refl (fun _ => False) x6).alloc _).drew).cell id hm6 | exact ((Kept.refl (fun _ => False) x6).alloc _).cell id hm6 | exact ((Kept.refl (fun _ => False) x6).drew).cell id hm6)).mono ?_; rintro e w7 ⟨t, rfl, ht7, hk7⟩; (try (have hq := hk7.heap id (newIn x6 (.cells #[.int .i64 0, .int .i64 0] 29 (0, 0))); have qc0 := cellIn hq 0 rfl; have qc1 := cellIn hq 1 rfl; have qf0 := freeIn hq 0; have qf1 := freeIn hq 1; replace hq := Lib.hid hq)); (have hx : Kept (fun _ => False) x6 w7 := by first | exact (((Kept.refl _ x6).alloc _).drew).trans hk7 | exact ((Kept.refl _ x6).alloc _).trans hk7 | exact ((Kept.refl _ x6).drew).trans hk7 | exact (Kept.refl _ x6).trans hk7)))
            all_goals
              first
                | (go_wp2_with fail
                   go_meet)
                | go_meet
            all_goals
              first
                | exact ⟨_, _, rfl, rfl, Lib.hid ht7, Lib.hid (HKX.out.trans (hx.alloc _)), Lib.hid (newIn w7 _)⟩
                | exact ⟨_, _, rfl, rfl, Lib.hid ht7, Lib.hid (HKX.out.trans ((hx.setCell (.inr (Nat.le_refl _)) _).setCell (.inr (Nat.le_refl _)) _)), Lib.hid (heap_two hq.out)⟩
          case rest =>
            obtain ⟨tt, bx, rfl, rfl, HT3, HKR, HBX⟩ := hcut
            obtain ⟨htl, ms, n1, n2, n3, hp, hn1, hn2, hn3, hv1, hv2, hv3⟩ := HT3.out
            have HS1 := fun wx (hk : Kept (fun _ => False) w wx) => styleT_any tt ms 1 n1 hp hn1 m wx (hk.cell id HM.out) (by omega)
            have HS2 := fun wx (hk : Kept (fun _ => False) w wx) => styleT_any tt ms 2 n2 hp hn2 m wx (hk.cell id HM.out) (by omega)
            have HS3 := fun wx (hk : Kept (fun _ => False) w wx) => styleT_any tt ms 3 n3 hp hn3 m wx (hk.cell id HM.out) (by omega)
            rw [hv1] at HS1
            rw [hv2] at HS2
            rw [hv3] at HS3
            replace HS1 := Lib.hid HS1
            replace HS2 := Lib.hid HS2
            replace HS3 := Lib.hid HS3
            clear htl hp hn1 hn2 hn3 hv1 hv2 hv3 HT3
            go_wp2_with fail
            refine (HS1.out _ HKR.out).mono ?_
            rintro e w8 ⟨rfl, hk8⟩
            have HK8 := Lib.hid (HKR.out.trans hk8)
            have HB8 := Lib.hid (hk8.heap id HBX.out)
            clear hk8
            go_wp2_with fail
            refine (HS2.out _ HK8.out).mono ?_
            rintro e w9 ⟨rfl, hk9⟩
            have HK9 := Lib.hid (HK8.out.trans hk9)
            have HB9 := Lib.hid (hk9.heap id HB8.out)
            clear hk9
            go_wp2_with fail
            refine (HS3.out _ HK9.out).mono ?_
            rintro e w10 ⟨rfl, hk10⟩
            have HK10 := Lib.hid (HK9.out.trans hk10)
            have b0 : w10.cell? ⟨bx, 0, none⟩ = some (.int .i64 0) := cellIn (hk10.heap id HB9.out) 0 rfl
            clear hk10
            go_wp2_with fail
            go_ret
            exact ⟨rfl, HK10.out⟩
        · go_upto_region 6 with fail
          obtain ⟨w5, HW5⟩ : ∃ x, Hid (w4.alloc (.cells #[.string (str (35 :: 113 :: 123 :: 99 :: 111 :: 108 :: 111 :: 114 :: 58 :: (a ++ [125]))), .string (str (46 :: 107 :: 123 :: 99 :: 111 :: 108 :: 111 :: 114 :: 58 :: (b ++ [125]))), .string (str (112 :: 123 :: 99 :: 111 :: 108 :: 111 :: 114 :: 58 :: (c ++ [125])))] 9 (0, 0)) = x) := ⟨_, Lib.hid rfl⟩
          rw [HW5.out]
          go_upto_region 7 with fail
          obtain ⟨x0, HX0⟩ : ∃ x, Hid (w5.alloc (.cells #[.int .i64 0, .int .i64 1, .int .i64 2] 3 (0, 0)) = x) := ⟨_, Lib.hid rfl⟩
          obtain ⟨x1, HX1⟩ : ∃ x, Hid (x0.alloc (.cells #[.int .i64 0, .int .i64 2, .int .i64 1] 3 (0, 0)) = x) := ⟨_, Lib.hid rfl⟩
          obtain ⟨x2, HX2⟩ : ∃ x, Hid (x1.alloc (.cells #[.int .i64 1, .int .i64 0, .int .i64 2] 3 (0, 0)) = x) := ⟨_, Lib.hid rfl⟩
          obtain ⟨x3, HX3⟩ : ∃ x, Hid (x2.alloc (.cells #[.int .i64 1, .int .i64 2, .int .i64 0] 3 (0, 0)) = x) := ⟨_, Lib.hid rfl⟩
          obtain ⟨x4, HX4⟩ : ∃ x, Hid (x3.alloc (.cells #[.int .i64 2, .int .i64 0, .int .i64 1] 3 (0, 0)) = x) := ⟨_, Lib.hid rfl⟩
          obtain ⟨x5, HX5⟩ : ∃ x, Hid (x4.alloc (.cells #[.int .i64 2, .int .i64 1, .int .i64 0] 3 (0, 0)) = x) := ⟨_, Lib.hid rfl⟩
          obtain ⟨x6, HX6⟩ : ∃ x, Hid (x5.alloc (.cells #[.slice (some ⟨w5.heap.size, 0, none⟩) 3 3, .slice (some ⟨w5.heap.size + 1, 0, none⟩) 3 3, .slice (some ⟨w5.heap.size + 1 + 1, 0, none⟩) 3 3, .slice (some ⟨w5.heap.size + 1 + 1 + 1, 0, none⟩) 3 3, .slice (some ⟨w5.heap.size + 1 + 1 + 1 + 1, 0, none⟩) 3 3, .slice (some ⟨w5.heap.size + 1 + 1 + 1 + 1 + 1, 0, none⟩) 3 3] 25 (0, 0)) = x) := ⟨_, Lib.hid rfl⟩
          rw [HX0.out, HX1.out, HX2.out, HX3.out, HX4.out, HX5.out, HX6.out]
          have z0 : x0.heap.size = w5.heap.size + 1 := by rw [← HX0.out]; simp
          have z1 : x1.heap.size = w5.heap.size + 1 + 1 := by rw [← HX1.out]; simp [z0]
          have z2 : x2.heap.size = w5.heap.size + 1 + 1 + 1 := by rw [← HX2.out]; simp [z1]
          have z3 : x3.heap.size = w5.heap.size + 1 + 1 + 1 + 1 := by rw [← HX3.out]; simp [z2]
          have z4 : x4.heap.size = w5.heap.size + 1 + 1 + 1 + 1 + 1 := by rw [← HX4.out]; simp [z3]
          have z5 : x5.heap.size = w5.heap.size + 1 + 1 + 1 + 1 + 1 + 1 := by rw [← HX5.out]; simp [z4]
          have y0 : Kept (fun _ => False) w5 x0 := by rw [← HX0.out]; exact (Kept.refl _ w5).alloc _
          have y1 : Kept (fun _ => False) x0 x1 := by rw [← HX1.out]; exact (Kept.refl _ x0).alloc _
          have y2 : Kept (fun _ => False) x1 x2 := by rw [← HX2.out]; exact (Kept.refl _ x1).alloc _
          have y3 : Kept (fun _ => False) x2 x3 := by rw [← HX3.out]; exact (Kept.refl _ x2).alloc _
          have y4 : Kept (fun _ => False) x3 x4 := by rw [← HX4.out]; exact (Kept.refl _ x3).alloc _
          have y5 : Kept (fun _ => False) x4 x5 := by rw [← HX5.out]; exact (Kept.refl _ x4).alloc _
          have y6 : Kept (fun _ => False) x5 x6 := by rw [← HX6.out]; exact (Kept.refl _ x5).alloc _
          have y5w : Kept (fun _ => False) w4 w5 := by rw [← HW5.out]; exact (Kept.refl _ w4).alloc _
          have yy : Kept (fun _ => False) w5 x6 := (((((y0.trans y1).trans y2).trans y3).trans y4).trans y5).trans y6
          have s0 : x6.heap[w4.heap.size]? = some (.cells #[.string (str (35 :: 113 :: 123 :: 99 :: 111 :: 108 :: 111 :: 114 :: 58 :: (a ++ [125]))), .string (str (46 :: 107 :: 123 :: 99 :: 111 :: 108 :: 111 :: 114 :: 58 :: (b ++ [125]))), .string (str (112 :: 123 :: 99 :: 111 :: 108 :: 111 :: 114 :: 58 :: (c ++ [125])))] 9 (0, 0)) := yy.heap id (by rw [← HW5.out]; exact newIn w4 _)
          have r0 : x6.heap[w5.heap.size + 1 + 1 + 1 + 1 + 1]? = some (.cells #[.int .i64 2, .int .i64 1, .int .i64 0] 3 (0, 0)) := by
            rw [← z4]
            exact y6.heap id (by rw [← HX5.out]; exact newIn x4 _)
          have c0 : x6.cell? ⟨w5.heap.size + 1 + 1 + 1 + 1 + 1, 0, none⟩ = some (.int .i64 2) := cellIn r0 0 rfl
          have c1 : x6.cell? ⟨w5.heap.size + 1 + 1 + 1 + 1 + 1, 1, none⟩ = some (.int .i64 1) := cellIn r0 1 rfl
          have c2 : x6.cell? ⟨w5.heap.size + 1 + 1 + 1 + 1 + 1, 2, none⟩ = some (.int .i64 0) := cellIn r0 2 rfl
          obtain ⟨P0, HP0⟩ : ∃ x : B, Hid (x = 35 :: 113 :: 123 :: 99 :: 111 :: 108 :: 111 :: 114 :: 58 :: (a ++ [125])) := ⟨_, Lib.hid rfl⟩
          obtain ⟨P1, HP1⟩ : ∃ x : B, Hid (x = 46 :: 107 :: 123 :: 99 :: 111 :: 108 :: 111 :: 114 :: 58 :: (b ++ [125])) := ⟨_, Lib.hid rfl⟩
          obtain ⟨P2, HP2⟩ : ∃ x : B, Hid (x = 112 :: 123 :: 99 :: 111 :: 108 :: 111 :: 114 :: 58 :: (c ++ [125])) := ⟨_, Lib.hid rfl⟩
          have lp0 : P0.length ≤ 40 := by rw [HP0.out]; simp; omega
          have lp1 : P1.length ≤ 40 := by rw [HP1.out]; simp; omega
          have lp2 : P2.length ≤ 40 := by rw [HP2.out]; simp; omega
          have d0 : x6.cell? ⟨w4.heap.size, 0, none⟩ = some (.string (str P0)) := by rw [HP0.out]; exact cellIn s0 0 rfl
          have d1 : x6.cell? ⟨w4.heap.size, 1, none⟩ = some (.string (str P1)) := by rw [HP1.out]; exact cellIn s0 1 rfl
          have d2 : x6.cell? ⟨w4.heap.size, 2, none⟩ = some (.string (str P2)) := by rw [HP2.out]; exact cellIn s0 2 rfl
          have HKX := Lib.hid (HK4.out.trans (y5w.trans yy))
          have HC := Lib.hid (weight_texts5 HTA.out HTB.out HTC.out)
          have HF : Hid (∀ wx, wx.cell? ⟨0, 0, none⟩ = some (.int .i64 m) → Calls Tryz.prog 8 #[.string (str (60 :: 115 :: 116 :: 121 :: 108 :: 101 :: 62 :: (P2 ++ (P1 ++ (P0 ++ [60, 47, 115, 116, 121, 108, 101, 62, 60, 112, 32, 99, 108, 97, 115, 115, 61, 34, 107, 34, 32, 105, 100, 61, 34, 113, 34, 62, 120, 60, 47, 112, 62, 60, 112, 32, 99, 108, 97, 115, 115, 61, 34, 107, 34, 62, 121, 60, 47, 112, 62, 60, 112, 62, 122, 60, 47, 112, 62])))))] wx fun e w' => ∃ t, e = .returned (.tuple #[.string (str t), .agg #[.int .i64 0, .int .i64 0]]) ∧ Three a b c t ∧ Kept (fun _ => False) wx w') := Lib.hid (fun wx hw => by
            obtain ⟨l, rs, h1, h2⟩ := HC.out
            have hX : 60 :: 115 :: 116 :: 121 :: 108 :: 101 :: 62 :: (P2 ++ (P1 ++ (P0 ++ [60, 47, 115, 116, 121, 108, 101, 62, 60, 112, 32, 99, 108, 97, 115, 115, 61, 34, 107, 34, 32, 105, 100, 61, 34, 113, 34, 62, 120, 60, 47, 112, 62, 60, 112, 32, 99, 108, 97, 115, 115, 61, 34, 107, 34, 62, 121, 60, 47, 112, 62, 60, 112, 62, 122, 60, 47, 112, 62]))) = 60 :: 115 :: 116 :: 121 :: 108 :: 101 :: 62 :: 112 :: 123 :: 99 :: 111 :: 108 :: 111 :: 114 :: 58 :: (c ++ 125 :: 46 :: 107 :: 123 :: 99 :: 111 :: 108 :: 111 :: 114 :: 58 :: (b ++ 125 :: 35 :: 113 :: 123 :: 99 :: 111 :: 108 :: 111 :: 114 :: 58 :: (a ++ 125 :: 60 :: 47 :: 115 :: 116 :: 121 :: 108 :: 101 :: 62 :: 60 :: 112 :: 32 :: 99 :: 108 :: 97 :: 115 :: 115 :: 61 :: 34 :: 107 :: 34 :: 32 :: 105 :: 100 :: 61 :: 34 :: 113 :: 34 :: 62 :: 120 :: 60 :: 47 :: 112 :: 62 :: 60 :: 112 :: 32 :: 99 :: 108 :: 97 :: 115 :: 115 :: 61 :: 34 :: 107 :: 34 :: 62 :: 121 :: 60 :: 47 :: 112 :: 62 :: 60 :: 112 :: 62 :: 122 :: 60 :: 47 :: 112 :: [62]))) := by rw [HP0.out, HP1.out, HP2.out]; simp
            rw [hX]
            exact fold_law _ m wx hw (by simp; omega) h1 h2)
          have hm6 : x6.cell? ⟨0, 0, none⟩ = some (.int .i64 m) := HKX.out.cell id HM.out
          have g0 : w4.heap.size < x6.heap.size := ltIn s0
          have g1 := ltIn r0
          have g2 : 0 < x6.heap.size := by omega
          clear z0 z1 z2 z3 z4 z5 y0 y1 y2 y3 y4 y5 y6 y5w yy s0 r0
          have e1 : (9223372036854775807 < 7 + P2.length) = False := by simp; omega
          have e2 : (9223372036854775807 < P2.length + 1 + 1 + 1 + 1 + 1 + 1 + 1 + P1.length) = False := by simp; omega
          have e3 : (9223372036854775807 < P2.length + P1.length + 1 + 1 + 1 + 1 + 1 + 1 + 1 + P0.length) = False := by simp; omega
          have e4 : (9223372036854775807 < P2.length + (P1.length + P0.length) + 1 + 1 + 1 + 1 + 1 + 1 + 1 + 59) = False := by simp; omega
          go_cut [11, 12] (fun v p wx => ∃ tt box, v = .string (str tt) ∧ p = .pointer (some ⟨box, 0, none⟩) ∧ Hid (Three a b c tt) ∧ Hid (Kept (fun _ => False) w wx) ∧ Hid (wx.heap[box]? = some (.cells #[.int .i64 0, .int .i64 0] 29 (0, 0))))
          case first =>
            go_region_held3 (fun w' => w'.cell? ⟨w5.heap.size + 1 + 1 + 1 + 1 + 1, 0, none⟩ = some (.int .i64 2) ∧ w'.cell? ⟨w5.heap.size + 1 + 1 + 1 + 1 + 1, 1, none⟩ = some (.int .i64 1) ∧ w'.cell? ⟨w5.heap.size + 1 + 1 + 1 + 1 + 1, 2, none⟩ = some (.int .i64 0) ∧ w'.cell? ⟨w4.heap.size, 0, none⟩ = some (.string (str P0)) ∧ w'.cell? ⟨w4.heap.size, 1, none⟩ = some (.string (str P1)) ∧ w'.cell? ⟨w4.heap.size, 2, none⟩ = some (.string (str P2)) ∧ w'.cell? ⟨0, 0, none⟩ = some (.int .i64 m)) (first | go_keep | (go_split_ands; refine ⟨Kept.cell (S := fun _ => False) (a := x6) ?_ id c0, Kept.cell (S := fun _ => False) (a := x6) ?_ id c1, Kept.cell (S := fun _ => False) (a := x6) ?_ id c2, Kept.cell (S := fun _ => False) (a := x6) ?_ id d0, Kept.cell (S := fun _ => False) (a := x6) ?_ id d1, Kept.cell (S := fun _ => False) (a := x6) ?_ id d2, Kept.cell (S := fun _ => False) (a := x6) ?_ id hm6⟩ <;> (first | exact (hx.setCell (.inr (Nat.le_refl _)) _).setCell (.inr (Nat.le_refl _)) _ | exact (hx.alloc _).setCell (.inr hx.size) _ | exact hx.alloc _ | exact hx | exact hx.drew)))
              ((go_at_call 8; refine (HF.out _ (by first | assumption | exact (((Kept.refl (fun _ => False) x6).alloc _).drew).cell id hm6 | exact ((Kept.refl (fun _ => False) x6).alloc _).cell id hm6 | exact ((Kept.refl (fun _ => False) x6).drew).cell id hm6)).mono ?_; rintro e w7 ⟨t, rfl, ht7, hk7⟩; (try (have hq := hk7.heap id (newIn x6 (.cells #[.int .i64 0, .int .i64 0] 29 (0, 0))); have qc0 := cellIn hq 0 rfl; have qc1 := cellIn hq 1 rfl; have qf0 := freeIn hq 0; have qf1 := freeIn hq 1; replace hq := Lib.hid hq)); (have hx : Kept (fun _ => False) x6 w7 := by first | exact (((Kept.refl _ x6).alloc _).drew).trans hk7 | exact ((Kept.refl _ x6).alloc _).trans hk7 | exact ((Kept.refl _ x6).drew).trans hk7 | exact (Kept.refl _ x6).trans hk7)))
            all_goals
              first
                | (go_wp2_with fail
                   go_meet)
                | go_meet
            all_goals
              first
                | exact ⟨_, _, rfl, rfl, Lib.hid ht7, Lib.hid (HKX.out.trans (hx.alloc _)), Lib.hid (newIn w7 _)⟩
                | exact ⟨_, _, rfl, rfl, Lib.hid ht7, Lib.hid (HKX.out.trans ((hx.setCell (.inr (Nat.le_refl _)) _).setCell (.inr (Nat.le_refl _)) _)), Lib.hid (heap_two hq.out)⟩
          case rest =>
            obtain ⟨tt, bx, rfl, rfl, HT3, HKR, HBX⟩ := hcut
            obtain ⟨htl, ms, n1, n2, n3, hp, hn1, hn2, hn3, hv1, hv2, hv3⟩ := HT3.out
            have HS1 := fun wx (hk : Kept (fun _ => False) w wx) => styleT_any tt ms 1 n1 hp hn1 m wx (hk.cell id HM.out) (by omega)
            have HS2 := fun wx (hk : Kept (fun _ => False) w wx) => styleT_any tt ms 2 n2 hp hn2 m wx (hk.cell id HM.out) (by omega)
            have HS3 := fun wx (hk : Kept (fun _ => False) w wx) => styleT_any tt ms 3 n3 hp hn3 m wx (hk.cell id HM.out) (by omega)
            rw [hv1] at HS1
            rw [hv2] at HS2
            rw [hv3] at HS3
            replace HS1 := Lib.hid HS1
            replace HS2 := Lib.hid HS2
            replace HS3 := Lib.hid HS3
            clear htl hp hn1 hn2 hn3 hv1 hv2 hv3 HT3
            go_wp2_with fail
            refine (HS1.out _ HKR.out).mono ?_
            rintro e w8 ⟨rfl, hk8⟩
            have HK8 := Lib.hid (HKR.out.trans hk8)
            have HB8 := Lib.hid (hk8.heap id HBX.out)
            clear hk8
            go_wp2_with fail
            refine (HS2.out _ HK8.out).mono ?_
            rintro e w9 ⟨rfl, hk9⟩
            have HK9 := Lib.hid (HK8.out.trans hk9)
            have HB9 := Lib.hid (hk9.heap id HB8.out)
            clear hk9
            go_wp2_with fail
            refine (HS3.out _ HK9.out).mono ?_
            rintro e w10 ⟨rfl, hk10⟩
            have HK10 := Lib.hid (HK9.out.trans hk10)
            have b0 : w10.cell? ⟨bx, 0, none⟩ = some (.int .i64 0) := cellIn (hk10.heap id HB9.out) 0 rfl
            clear hk10
            go_wp2_with fail
            go_ret
            exact ⟨rfl, HK10.out⟩
end Go.Proofs.YtplbdlgmjehckabGreatDoor

