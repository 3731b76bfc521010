/-
  Plain Lean, no program: which elements selectors mean (chapter 3), as functions.
-/
import Derived.Test.YtplbdlgmjehckacDoorPrSpec
namespace Go.Proofs.YtplbdlgmjehckacDoor
set_option linter.unusedVariables false
set_option linter.unusedSimpArgs false

def className : B := [99, 108, 97, 115, 115]
def idName : B := [105, 100]

def mTestN (l : List PNode) (k : Nat) (n : PNode) (t : PTest) : Bool :=
  if t.kind = 1 then n.name == t.name
  else if t.kind = 2 then !t.name.isEmpty && (splitB (pGet n.attrs className).1).contains t.name
  else if t.kind = 3 then (pGet n.attrs idName).2 && (pGet n.attrs idName).1 == t.name
  else if t.kind = 4 then (pGet n.attrs t.name).2
  else if t.kind = 5 then (pGet n.attrs t.name).2 && (pGet n.attrs t.name).1 == t.val
  else if t.kind = 6 then decide (pAhead l (k : Int) < 0)
  else false
/-- is an element as a test asks? -/
def mTest (l : List PNode) (k : Nat) (t : PTest) : Bool := match l[k]? with
  | none => false
  | some n => mTestN l k n t
def mPart (l : List PNode) (k : Nat) (p : PPart) : Bool := p.tests.all (mTest l k)

def parentOf (l : List PNode) (k : Nat) : Int := match l[k]? with
  | none => -1
  | some n => n.parent
/-- those above, as long as numbers go down -/
def upsF (l : List PNode) : Nat → Nat → List Nat
  | 0, _ => []
  | f + 1, k => if 0 ≤ parentOf l k ∧ parentOf l k < (k : Int) then (parentOf l k).toNat :: upsF l f (parentOf l k).toNat else []
def ups (l : List PNode) (k : Nat) : List Nat := upsF l k k

def inR (l : List PNode) (k : Int) : Bool := decide (0 ≤ k) && decide (k < (l.length : Int))
def mJoin (l : List PNode) (j : Int) (q : Int → Bool) (k : Nat) : Bool :=
  if j = 2 then q (parentOf l k) else if j = 3 then q (pAhead l (k : Int)) else if j = 1 then (ups l k).any (fun u => q (u : Int)) else false
/-- is an element as parts ask (the last one first)? -/
def mAt (l : List PNode) : List PPart → Int → Bool
  | [], k => inR l k
  | p :: rest, k => inR l k && mPart l k.toNat p && (rest.isEmpty || mJoin l p.join (mAt l rest) k.toNat)
def mMatches (l : List PNode) (k : Int) (s : PSel) : Bool := !s.isEmpty && mAt l s.reverse k

structure PWt where
  a : Nat
  b : Nat
  c : Nat
  deriving DecidableEq
def wLt (x y : PWt) : Bool := decide (x.a < y.a) || (decide (x.a = y.a) && (decide (x.b < y.b) || (decide (x.b = y.b) && decide (x.c < y.c))))
def wTest (w : PWt) (t : PTest) : PWt :=
  if t.kind = 3 then ⟨w.a + 1, w.b, w.c⟩ else if t.kind = 1 then ⟨w.a, w.b, w.c + 1⟩ else if t.kind = 2 ∨ t.kind = 4 ∨ t.kind = 5 ∨ t.kind = 6 then ⟨w.a, w.b + 1, w.c⟩ else w
def wPart (w : PWt) (p : PPart) : PWt := p.tests.foldl wTest w
def mWeigh (s : PSel) : PWt := s.foldl wPart ⟨0, 0, 0⟩
def bestStep (l : List PNode) (k : Int) (acc : PWt × Bool) (s : PSel) : PWt × Bool :=
  if mMatches l k s && (!acc.2 || wLt acc.1 (mWeigh s)) then (mWeigh s, true) else acc
def mBest (l : List PNode) (k : Int) (sels : List PSel) : PWt × Bool := sels.foldl (bestStep l k) (⟨0, 0, 0⟩, false)

/-! ### laws -/
theorem upsF_fuel (l : List PNode) : ∀ (f g k : Nat), k ≤ f → k ≤ g → upsF l f k = upsF l g k
  | 0, g, k, hf, hg => by
    obtain rfl : k = 0 := by omega
    cases g with
    | zero => rfl
    | succ g => simp only [upsF]; rw [if_neg (by omega)]
  | f + 1, 0, k, hf, hg => by
    obtain rfl : k = 0 := by omega
    simp only [upsF]; rw [if_neg (by omega)]
  | f + 1, g + 1, k, hf, hg => by
    simp only [upsF]
    split
    · rw [upsF_fuel l f g _ (by omega) (by omega)]
    · rfl
theorem ups_eq (l : List PNode) (k : Nat) : ups l k = if 0 ≤ parentOf l k ∧ parentOf l k < (k : Int) then (parentOf l k).toNat :: ups l (parentOf l k).toNat else [] := by
  unfold ups
  cases k with
  | zero => simp only [upsF]; rw [if_neg (by omega)]
  | succ k =>
    simp only [upsF]
    split
    · rw [upsF_fuel l k _ _ (by omega) (Nat.le_refl _)]
    · rfl
theorem mJoin_mono {l : List PNode} {j : Int} {q r : Int → Bool} {k : Nat} (h : ∀ x, q x = true → r x = true) (hq : mJoin l j q k = true) : mJoin l j r k = true := by
  unfold mJoin at hq ⊢
  split
  · rename_i hj; rw [if_pos hj] at hq; exact h _ hq
  · rename_i h2
    rw [if_neg h2] at hq
    split
    · rename_i hj; rw [if_pos hj] at hq; exact h _ hq
    · rename_i h3
      rw [if_neg h3] at hq
      split
      · rename_i hj
        rw [if_pos hj] at hq
        rw [List.any_eq_true] at hq ⊢
        obtain ⟨u, hu, hx⟩ := hq
        exact ⟨u, hu, h _ hx⟩
      · rename_i hj; rw [if_neg hj] at hq; cases hq
theorem mAt_cons (l : List PNode) (p : PPart) (rest : List PPart) (k : Int) : mAt l (p :: rest) k = true ↔ inR l k = true ∧ mPart l k.toNat p = true ∧ (rest = [] ∨ mJoin l p.join (mAt l rest) k.toNat = true) := by
  simp only [mAt, Bool.and_eq_true, Bool.or_eq_true, List.isEmpty_iff, and_assoc]

end Go.Proofs.YtplbdlgmjehckacDoor
