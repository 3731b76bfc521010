/-
  Plain Lean, no program: what follows '@media' step by step; what is printed, one more.
-/
import Derived.Test.YtplbdlgmjehckabShSeg
namespace Go.Proofs.Ytplbdlgmjehckab
set_option linter.unusedVariables false
set_option linter.unusedSimpArgs false

def kM5 (n : Nat) (md : B) (x : List PRule × B × Nat) : Ans (List PRule × B × Nat) := (pMust [125] x.2.1 x.2.2).then fun y => rulesFrom n md x.1 y.1 y.2
def kM4 (n : Nat) (md : B) (rs : List PRule) (nm : B) (y : B × Nat) : Ans (List PRule × B × Nat) := (rulesFrom n nm rs y.1 y.2).then (kM5 n md)
def kM3 (n : Nat) (md : B) (rs : List PRule) (nm : B) (x : B × Nat) : Ans (List PRule × B × Nat) := (pMust [123] x.1 x.2).then (kM4 n md rs nm)
def kM2 (n : Nat) (md : B) (rs : List PRule) (x : B × B × Nat) : Ans (List PRule × B × Nat) := (sGap x.2.1 x.2.2).then (kM3 n md rs x.1)
def kM1 (n : Nat) (md : B) (rs : List PRule) (a : Nat) (x : B × Nat) : Ans (List PRule × B × Nat) := if x.2 = a then .bad ⟨2, x.2⟩ else (sName x.1 x.2).then (kM2 n md rs)
theorem media_eq {n : Nat} {md : B} {rs : List PRule} {l : B} {a : Nat} :
    ((sMediaHead l a).then fun h => (rulesFrom n h.1 rs h.2.1 h.2.2).then fun x => (pMust [125] x.2.1 x.2.2).then fun y => rulesFrom n md x.1 y.1 y.2) = (sGap l a).then (kM1 n md rs a) := by
  unfold sMediaHead
  cases sGap l a with
  | bad f => rfl
  | ok x =>
    obtain ⟨l1, a1⟩ := x
    simp only [Ans.ok_then, kM1]
    split
    · rfl
    · cases sName l1 a1 with
      | bad f => rfl
      | ok y =>
        obtain ⟨nm, l2, a2⟩ := y
        simp only [Ans.ok_then, kM2]
        cases sGap l2 a2 with
        | bad f => rfl
        | ok z =>
          obtain ⟨l3, a3⟩ := z
          simp only [Ans.ok_then, kM3]
          cases pMust [123] l3 a3 <;> rfl

theorem sPrint_snoc (d : PDecl) : ∀ ds : List PDecl, sPrint (ds ++ [d]) = (if ds = [] then [] else sPrint ds ++ [59, 32]) ++ printOne d
  | [] => rfl
  | [x] => by simp [sPrint]
  | x :: y :: ds => by
    have ih := sPrint_snoc d (y :: ds)
    rw [if_neg (by simp)] at ih ⊢
    show printOne x ++ [59, 32] ++ sPrint ((y :: ds) ++ [d]) = (printOne x ++ [59, 32] ++ sPrint (y :: ds)) ++ [59, 32] ++ printOne d
    rw [ih]; simp
end Go.Proofs.Ytplbdlgmjehckab
