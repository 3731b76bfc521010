/-
  Plain Lean, no program: what a page's text reads as (chapter 1), as a function.
-/
import Derived.Test.YtplbdlgmjehckabTxt
namespace Go.Proofs.Ytplbdlgmjehckab
set_option linter.unusedVariables false
set_option linter.unusedSimpArgs false

/-- an attribute: name, value, where it stands -/
structure PAttr where
  name : B
  val : B
  lo : Int
  hi : Int
  deriving DecidableEq
/-- an element -/
structure PNode where
  name : B
  parent : Int
  attrs : List PAttr
  nameEnd : Int
  inF : Int
  inT : Int
  deriving DecidableEq
/-- what is wrong, and where -/
structure Flt where
  err : Nat
  pos : Nat
  deriving DecidableEq

/-- an answer: a fault, or a value -/
inductive Ans (α : Type) where
  | bad (f : Flt)
  | ok (a : α)
  deriving DecidableEq
def Ans.then {α β : Type} (a : Ans α) (k : α → Ans β) : Ans β := match a with | .bad f => .bad f | .ok x => k x
@[simp] theorem Ans.bad_then {α β : Type} (f : Flt) (k : α → Ans β) : (Ans.bad f).then k = .bad f := rfl
@[simp] theorem Ans.ok_then {α β : Type} (x : α) (k : α → Ans β) : (Ans.ok x).then k = k x := rfl

def isVal (c : UInt8) : Bool := decide (32 ≤ c.toNat) && decide (c.toNat ≤ 126) && !decide (c.toNat = 34) && !decide (c.toNat = 60) && !decide (c.toNat = 38)

theorem isVal_yes {c : UInt8} (h : isVal c = true) : 32 ≤ (c.toNat : Int) ∧ (c.toNat : Int) ≤ 126 ∧ ((c.toNat : Int) != 34) = true ∧ ((c.toNat : Int) != 60) = true ∧ ((c.toNat : Int) != 38) = true := by
  simp [isVal] at h; simp; omega
theorem isVal_no {c : UInt8} (h : isVal c = false) : (c.toNat : Int) < 32 ∨ (32 ≤ (c.toNat : Int) ∧ 126 < (c.toNat : Int)) ∨
    (32 ≤ (c.toNat : Int) ∧ (c.toNat : Int) ≤ 126 ∧ ((c.toNat : Int) != 34) = false) ∨
    (32 ≤ (c.toNat : Int) ∧ (c.toNat : Int) ≤ 126 ∧ ((c.toNat : Int) != 34) = true ∧ ((c.toNat : Int) != 60) = false) ∨
    (32 ≤ (c.toNat : Int) ∧ (c.toNat : Int) ≤ 126 ∧ ((c.toNat : Int) != 34) = true ∧ ((c.toNat : Int) != 60) = true ∧ ((c.toNat : Int) != 38) = false) := by
  simp [isVal] at h; simp; omega

/-- the name that stands here: it, what is left, where that begins; 'long': the fault of one that is too long -/
def pName (l : B) (at_ : Nat) : Ans (B × B × Nat) :=
  if nameLen l = 0 then .bad ⟨2, at_⟩ else if 20 < nameLen l then .bad ⟨7, at_⟩ else .ok (l.take (nameLen l), l.drop (nameLen l), at_ + nameLen l)

def pMust (w l : B) (at_ : Nat) : Ans (B × Nat) := if w.isPrefixOf l then .ok (l.drop w.length, at_ + w.length) else .bad ⟨2, at_⟩

def pVal (l : B) : B := l.takeWhile isVal

/-- one attribute; the blank ahead of it stands there -/
def pAttr (as : List PAttr) (l : B) (at_ : Nat) : Ans (PAttr × B × Nat) :=
  (pName (l.drop 1) (at_ + 1)).then fun (nm, l2, at2) =>
  if (as.any fun a => a.name == nm) || as.length == 8 then .bad ⟨if as.length = 8 then 5 else 7, at_ + 1⟩ else
  (pMust [61, 34] l2 at2).then fun (l3, at3) =>
  (pMust [34] (l3.drop (pVal l3).length) (at3 + (pVal l3).length)).then fun (l5, at5) =>
  .ok (⟨nm, pVal l3, (at_ : Int), (at5 : Int)⟩, l5, at5)

def pAttrs : Nat → List PAttr → B → Nat → Ans (List PAttr × B × Nat)
  | 0, as, l, at_ => .bad ⟨2, 0⟩
  | fuel + 1, as, l, at_ =>
    if [32].isPrefixOf l then (pAttr as l at_).then fun (a, l', at') => pAttrs fuel (as ++ [a]) l' at'
    else .ok (as, l, at_)

/-- an element's first tag: the element, what is left -/
def pOpen (parent : Int) (deep count : Nat) (l : B) (at_ : Nat) : Ans (PNode × B × Nat) :=
  if 20 < deep then .bad ⟨4, at_⟩ else if count = 120 then .bad ⟨4, at_⟩ else
  (pMust [60] l at_).then fun (l1, at1) =>
  (pName l1 at1).then fun (nm, l2, at2) =>
  (pAttrs (l2.length + 1) [] l2 at2).then fun (as, l3, at3) =>
  (pMust [62] l3 at3).then fun (l4, at4) =>
  .ok (⟨nm, parent, as, at2, 0, 0⟩, l4, at4)

def styleName : B := [115, 116, 121, 108, 101]
def styleEnd : B := [60, 47, 115, 116, 121, 108, 101, 62]

/-- what is within an element, and its end, given how items are read -/
def pInside (items : Int → Nat → List PNode → B → Nat → Ans (List PNode × B × Nat)) (deep : Nat) (ns : List PNode) (n : PNode) (l : B) (at_ : Nat) : Ans (List PNode × B × Nat) :=
  if n.name = styleName then
    match findSub styleEnd l with
    | none => .bad ⟨2, at_ + l.length⟩
    | some e => .ok (ns ++ [{ n with inF := (at_ : Int), inT := ((at_ + e : Nat) : Int) }], l.drop e, at_ + e)
  else items (ns.length : Int) (deep + 1) (ns ++ [n]) l at_

def pElem (items : Int → Nat → List PNode → B → Nat → Ans (List PNode × B × Nat)) (parent : Int) (deep : Nat) (ns : List PNode) (l : B) (at_ : Nat) : Ans (List PNode × B × Nat) :=
  (pOpen parent deep ns.length l at_).then fun (n, l1, at1) =>
  (pInside items deep ns n l1 at1).then fun (ns2, l2, at2) =>
  (pMust ([60, 47] ++ n.name ++ [62]) l2 at2).then fun (l3, at3) => .ok (ns2, l3, at3)

def pTextOk (c : UInt8) : Bool := decide (c.toNat = 10) || (decide (32 ≤ c.toNat) && decide (c.toNat ≤ 126))

def noteBegin : B := [60, 33, 45, 45]
def noteEnd : B := [45, 45, 62]

def pItems : Nat → Int → Nat → List PNode → B → Nat → Ans (List PNode × B × Nat)
  | 0, _, _, _, _, _ => .bad ⟨2, 0⟩
  | fuel + 1, parent, deep, ns, l, at_ =>
    match l with
    | [] => .ok (ns, [], at_)
    | c :: t =>
      if [60, 47].isPrefixOf (c :: t) then .ok (ns, c :: t, at_)
      else if noteBegin.isPrefixOf (c :: t) then
        match findSub noteEnd ((c :: t).drop 4) with
        | none => .bad ⟨2, at_ + (c :: t).length⟩
        | some e => pItems fuel parent deep ns ((c :: t).drop (4 + e + 3)) (at_ + (4 + e + 3))
      else if [60].isPrefixOf (c :: t) then
        (pElem (pItems fuel) parent deep ns (c :: t) at_).then fun (ns', l', at') => pItems fuel parent deep ns' l' at'
      else if pTextOk c then pItems fuel parent deep ns t (at_ + 1)
      else .bad ⟨2, at_⟩

def pParse (s : B) : Ans (List PNode) :=
  if 6000 < s.length then .bad ⟨4, 0⟩ else
  (pItems (s.length + 1) (-1) 1 [] s 0).then fun (ns, l, at_) => if l = [] then .ok ns else .bad ⟨2, at_⟩

def pGet (as : List PAttr) (name : B) : B × Bool :=
  match as.find? (fun a => a.name == name) with
  | some a => (a.val, true)
  | none => ([], false)

/-- the last one ahead of k (as a number below 'n') that has the parent p -/
def lastWith (l : List PNode) (p : Int) : Nat → Int
  | 0 => -1
  | i + 1 => if (l[i]?).any (fun x => x.parent == p) then (i : Int) else lastWith l p i

def pAhead (l : List PNode) (k : Int) : Int :=
  if k < 0 ∨ (l.length : Int) ≤ k then -1 else
  match l[k.toNat]? with
  | some n => lastWith l n.parent k.toNat
  | none => -1

end Go.Proofs.Ytplbdlgmjehckab
