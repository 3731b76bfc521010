/-
  Lemmas for the claims of this seat: the program's functions walked, and plain laws. In this order: TpMediaT.
-/
import Derived.Test.YtplbdlgmjehckadGreatDoorPk8
namespace Go.Proofs.YtplbdlgmjehckadGreatDoor
set_option linter.unusedVariables false
set_option linter.unusedSimpArgs false
structure MediaOk (a b c t : B) (m : List PNode) (qs : List PRule) (n1 : PNode) : Prop where
  read : fRead t = .ok (m, qs)
  page : pParse t = .ok m
  two : m.length = 2
  rules : qs.length = 2
  at1 : m[1]? = some n1
  own : (pGet n1.attrs styleName).1 = 115 :: 105 :: 122 :: 101 :: 58 :: 32 :: b
  far : cValue m 1 qs [] colorName = .ok a
  near : cValue m 1 qs [[119, 105, 100, 101]] colorName = .ok c
theorem media_texts {a b c : B} (ha : TopW a) (hb : TopW b) (hc : TopW c) : ∃ l rs, fRead (60 :: 115 :: 116 :: 121 :: 108 :: 101 :: 62 :: 112 :: 123 :: 99 :: 111 :: 108 :: 111 :: 114 :: 58 :: (a ++ 125 :: 112 :: 123 :: 115 :: 105 :: 122 :: 101 :: 58 :: (b ++ 125 :: 64 :: 109 :: 101 :: 100 :: 105 :: 97 :: 32 :: 119 :: 105 :: 100 :: 101 :: 123 :: 112 :: 123 :: 99 :: 111 :: 108 :: 111 :: 114 :: 58 :: (c ++ [125, 125, 60, 47, 115, 116, 121, 108, 101, 62, 60, 112, 62, 120, 60, 47, 112, 62])))) = .ok (l, rs) ∧ ∀ st, IsStays l rs st → ∃ t, fFold (60 :: 115 :: 116 :: 121 :: 108 :: 101 :: 62 :: 112 :: 123 :: 99 :: 111 :: 108 :: 111 :: 114 :: 58 :: (a ++ 125 :: 112 :: 123 :: 115 :: 105 :: 122 :: 101 :: 58 :: (b ++ 125 :: 64 :: 109 :: 101 :: 100 :: 105 :: 97 :: 32 :: 119 :: 105 :: 100 :: 101 :: 123 :: 112 :: 123 :: 99 :: 111 :: 108 :: 111 :: 114 :: 58 :: (c ++ [125, 125, 60, 47, 115, 116, 121, 108, 101, 62, 60, 112, 62, 120, 60, 47, 112, 62])))) l rs st = .ok t ∧ ∃ m qs n1, MediaOk a b c t m qs n1 := by
  have hX : textP (mediaT a b c) = 60 :: 115 :: 116 :: 121 :: 108 :: 101 :: 62 :: 112 :: 123 :: 99 :: 111 :: 108 :: 111 :: 114 :: 58 :: (a ++ 125 :: 112 :: 123 :: 115 :: 105 :: 122 :: 101 :: 58 :: (b ++ 125 :: 64 :: 109 :: 101 :: 100 :: 105 :: 97 :: 32 :: 119 :: 105 :: 100 :: 101 :: 123 :: 112 :: 123 :: 99 :: 111 :: 108 :: 111 :: 114 :: 58 :: (c ++ [125, 125, 60, 47, 115, 116, 121, 108, 101, 62, 60, 112, 62, 120, 60, 47, 112, 62]))) := by
    simp [mediaT, mediaIts, textIt, It.text, textIn, rco, rsp, rul, In1.text, ruleText, declText, textP, openText, closeText, attrsText, styleName, sizeName, colorName, wideHead, mediaWord]
  obtain ⟨h1, h2⟩ := top_media ha hb hc rfl
  rw [hX] at h1 h2
  refine ⟨_, _, h1, fun st S => ?_⟩
  obtain ⟨t, m, qs, n1, k1, k2, k3, k4, k5, k6, k7, k8, k9⟩ := h2 st S
  exact ⟨t, k1, m, qs, n1, ⟨k2, k3, k4, k5, k6, by rw [k7]; simp [declTextB, sizeName], k8, k9⟩⟩
end Go.Proofs.YtplbdlgmjehckadGreatDoor

