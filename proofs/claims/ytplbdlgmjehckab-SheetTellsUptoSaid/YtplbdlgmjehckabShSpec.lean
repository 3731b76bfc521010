/-
  Plain Lean, no program: what a sheet's text reads as (chapter 2), as a function.
-/
import Derived.Test.YtplbdlgmjehckabPgSpec
namespace Go.Proofs.Ytplbdlgmjehckab
set_option linter.unusedVariables false
set_option linter.unusedSimpArgs false

structure PTest where
  kind : Int
  name : B
  val : B
  deriving DecidableEq
structure PPart where
  join : Int
  tests : List PTest
  deriving DecidableEq
abbrev PSel := List PPart
structure PDecl where
  name : B
  val : B
  strong : Bool
  deriving DecidableEq
structure PRule where
  media : B
  sels : List PSel
  decls : List PDecl
  lo : Int
  hi : Int
  deriving DecidableEq

/-! ### gaps, names -/
def gapBegin : B := [47, 42]
def gapEnd : B := [42, 47]

def sGaps : Nat → B → Nat → Ans (B × Nat)
  | 0, _, _ => .bad ⟨2, 0⟩
  | f + 1, l, at_ =>
    match l with
    | [] => .ok ([], at_)
    | c :: t =>
      if c.toNat = 32 ∨ c.toNat = 10 then sGaps f t (at_ + 1)
      else if gapBegin.isPrefixOf (c :: t) then
        match findSub gapEnd ((c :: t).drop 2) with
        | none => .bad ⟨2, at_⟩
        | some e => sGaps f ((c :: t).drop (2 + e + 2)) (at_ + (2 + e + 2))
      else .ok (c :: t, at_)

/-- blanks, line feeds and notes -/
def sGap (l : B) (at_ : Nat) : Ans (B × Nat) := sGaps (l.length + 1) l at_

def sName (l : B) (at_ : Nat) : Ans (B × B × Nat) :=
  if nameLen l = 0 ∨ 20 < nameLen l then .bad ⟨2, at_⟩ else .ok (l.take (nameLen l), l.drop (nameLen l), at_ + nameLen l)

/-! ### selectors -/
def firstWord : B := [58, 102, 105, 114, 115, 116]

def sAttrTest (l : B) (at_ : Nat) : Ans (PTest × B × Nat) :=
  (sName l at_).then fun (nm, l1, at1) =>
  if nm = styleName then .bad ⟨1, at1⟩ else
  if [61].isPrefixOf l1 then
    (sName (l1.drop 1) (at1 + 1)).then fun (v, l2, at2) =>
    (pMust [93] l2 at2).then fun (l3, at3) => .ok (⟨5, nm, v⟩, l3, at3)
  else (pMust [93] l1 at1).then fun (l3, at3) => .ok (⟨4, nm, []⟩, l3, at3)

/-- a test, if one stands here -/
def sTest (l : B) (at_ : Nat) : Ans (Option PTest × B × Nat) :=
  if [46].isPrefixOf l then (sName (l.drop 1) (at_ + 1)).then fun (nm, l1, at1) => .ok (some ⟨2, nm, []⟩, l1, at1)
  else if [35].isPrefixOf l then (sName (l.drop 1) (at_ + 1)).then fun (nm, l1, at1) => .ok (some ⟨3, nm, []⟩, l1, at1)
  else if firstWord.isPrefixOf l then .ok (some ⟨6, [], []⟩, l.drop 6, at_ + 6)
  else if [91].isPrefixOf l then (sAttrTest (l.drop 1) (at_ + 1)).then fun (t, l1, at1) => .ok (some t, l1, at1)
  else .ok (none, l, at_)

def sTestsL : Nat → List PTest → Bool → B → Nat → Ans (List PTest × B × Nat)
  | 0, _, _, _, _ => .bad ⟨2, 0⟩
  | f + 1, ts, some_, l, at_ =>
    (sTest l at_).then fun (t, l1, at1) =>
    match t with
    | none => if some_ then .ok (ts, l, at_) else .bad ⟨2, at_⟩
    | some t => if ts.length = 6 then .bad ⟨5, at1⟩ else sTestsL f (ts ++ [t]) true l1 at1

/-- what a part begins with: a star, a name, or neither -/
def sHead (l : B) (at_ : Nat) : Ans (List PTest × Bool × B × Nat) :=
  if [42].isPrefixOf l then .ok ([], true, l.drop 1, at_ + 1)
  else if nameLen l = 0 then .ok ([], false, l, at_)
  else (sName l at_).then fun (nm, l1, at1) => .ok ([⟨1, nm, []⟩], true, l1, at1)

def sTests (l : B) (at_ : Nat) : Ans (List PTest × B × Nat) :=
  (sHead l at_).then fun (ts, some_, l1, at1) => sTestsL (l1.length + 1) ts some_ l1 at1

/-- does a selector end here, where gaps stood ahead, or not? -/
def selEnds (gap : Bool) (l : B) : Bool := !gap || l.isEmpty || [44].isPrefixOf l || [123].isPrefixOf l

/-- the join that stands here: its kind (none: the selector ends) -/
def sJoin (l : B) (at_ : Nat) : Ans (Option Int × B × Nat) :=
  (sGap l at_).then fun (l1, at1) =>
  if [62].isPrefixOf l1 then (sGap (l1.drop 1) (at1 + 1)).then fun (l2, at2) => .ok (some 2, l2, at2)
  else if [43].isPrefixOf l1 then (sGap (l1.drop 1) (at1 + 1)).then fun (l2, at2) => .ok (some 3, l2, at2)
  else if selEnds (decide (at_ < at1)) l1 then .ok (none, l1, at1) else .ok (some 1, l1, at1)

def sSelL : Nat → List PPart → B → Nat → Ans (PSel × B × Nat)
  | 0, _, _, _ => .bad ⟨2, 0⟩
  | f + 1, ps, l, at_ =>
    (sJoin l at_).then fun (j, l1, at1) =>
    match j with
    | none => .ok (ps, l1, at1)
    | some j => if ps.length = 6 then .bad ⟨5, at1⟩ else
      (sTests l1 at1).then fun (ts, l2, at2) => sSelL f (ps ++ [⟨j, ts⟩]) l2 at2

def sSel (l : B) (at_ : Nat) : Ans (PSel × B × Nat) :=
  (sTests l at_).then fun (ts, l1, at1) => sSelL (l1.length + 1) [⟨0, ts⟩] l1 at1

/-! ### declarations -/
def isWord (c : UInt8) : Bool := isLow c || (decide (48 ≤ c.toNat) && decide (c.toNat ≤ 57)) || decide (c.toNat = 35) || decide (c.toNat = 46) || decide (c.toNat = 37) || decide (c.toNat = 45)

/-- words, with a blank between -/
def joinW : List B → B
  | [] => []
  | [w] => w
  | w :: ws => w ++ [32] ++ joinW ws

def sValL : Nat → List B → B → Nat → Ans (B × B × Nat)
  | 0, _, _, _ => .bad ⟨2, 0⟩
  | f + 1, ws, l, at_ =>
    let w := l.takeWhile isWord
    if w = [] then (if ws = [] then .bad ⟨2, at_⟩ else .ok (joinW ws, l, at_))
    else if 60 < (joinW (ws ++ [w])).length then .bad ⟨4, at_⟩
    else (sGap (l.drop w.length) (at_ + w.length)).then fun (l1, at1) => sValL f (ws ++ [w]) l1 at1

def sVal (l : B) (at_ : Nat) : Ans (B × B × Nat) := sValL (l.length + 1) [] l at_

def importantWord : B := [105, 109, 112, 111, 114, 116, 97, 110, 116]

/-- is it strong? -/
def sStrong (l : B) (at_ : Nat) : Ans (Bool × B × Nat) :=
  if [33].isPrefixOf l then
    (pMust importantWord (l.drop 1) (at_ + 1)).then fun (l1, at1) => (sGap l1 at1).then fun (l2, at2) => .ok (true, l2, at2)
  else .ok (false, l, at_)

def sDecl (l : B) (at_ : Nat) : Ans (PDecl × B × Nat) :=
  (sName l at_).then fun (nm, l1, at1) =>
  (sGap l1 at1).then fun (l2, at2) =>
  (pMust [58] l2 at2).then fun (l3, at3) =>
  (sGap l3 at3).then fun (l4, at4) =>
  (sVal l4 at4).then fun (v, l5, at5) =>
  (sStrong l5 at5).then fun (st, l6, at6) => .ok (⟨nm, v, st⟩, l6, at6)

def sDeclsL : Nat → List PDecl → B → Nat → Ans (List PDecl × B × Nat)
  | 0, _, _, _ => .bad ⟨2, 0⟩
  | f + 1, ds, l, at_ =>
    if l.isEmpty || [125].isPrefixOf l then .ok (ds, l, at_)
    else if ds.length = 20 then .bad ⟨5, at_⟩
    else (sDecl l at_).then fun (d, l1, at1) =>
      if [59].isPrefixOf l1 then (sGap (l1.drop 1) (at1 + 1)).then fun (l2, at2) => sDeclsL f (ds ++ [d]) l2 at2
      else .ok (ds ++ [d], l1, at1)

def sDecls (l : B) (at_ : Nat) : Ans (List PDecl × B × Nat) :=
  (sGap l at_).then fun (l1, at1) => sDeclsL (l1.length + 1) [] l1 at1

/-! ### rules -/
def sSelsL : Nat → List PSel → B → Nat → Ans (List PSel × B × Nat)
  | 0, _, _, _ => .bad ⟨2, 0⟩
  | f + 1, ss, l, at_ =>
    if ss.length = 8 then .bad ⟨5, at_⟩ else
    (sSel l at_).then fun (x, l1, at1) =>
    if [44].isPrefixOf l1 then (sGap (l1.drop 1) (at1 + 1)).then fun (l2, at2) => sSelsL f (ss ++ [x]) l2 at2
    else .ok (ss ++ [x], l1, at1)

def sRule (media : B) (l : B) (at_ : Nat) : Ans (PRule × B × Nat) :=
  (sSelsL (l.length + 1) [] l at_).then fun (ss, l1, at1) =>
  (pMust [123] l1 at1).then fun (l2, at2) =>
  (sDecls l2 at2).then fun (ds, l3, at3) =>
  (pMust [125] l3 at3).then fun (l4, at4) => .ok (⟨media, ss, ds, (at_ : Int), (at4 : Int)⟩, l4, at4)

def mediaWord : B := [64, 109, 101, 100, 105, 97]

/-- behind '@media': its name, and what stands behind '{' and gaps -/
def sMediaHead (l : B) (at_ : Nat) : Ans (B × B × Nat) :=
  (sGap l at_).then fun (l1, at1) =>
  if at1 = at_ then .bad ⟨2, at1⟩ else
  (sName l1 at1).then fun (nm, l2, at2) =>
  (sGap l2 at2).then fun (l3, at3) =>
  (pMust [123] l3 at3).then fun (l4, at4) => .ok (nm, l4, at4)

/-- rules, behind gaps, up to an end -/
def sRulesL : Nat → B → List PRule → B → Nat → Ans (List PRule × B × Nat)
  | 0, _, _, _, _ => .bad ⟨2, 0⟩
  | f + 1, media, rs, l, at_ =>
    if l.isEmpty || [125].isPrefixOf l then .ok (rs, l, at_)
    else if media.isEmpty && mediaWord.isPrefixOf l then
      (sMediaHead (l.drop 6) (at_ + 6)).then fun (nm, l1, at1) =>
      (sGap l1 at1).then fun (l2, at2) =>
      (sRulesL f nm rs l2 at2).then fun (rs', l3, at3) =>
      (pMust [125] l3 at3).then fun (l4, at4) =>
      (sGap l4 at4).then fun (l5, at5) => sRulesL f media rs' l5 at5
    else if rs.length = 60 then .bad ⟨5, at_⟩
    else (sRule media l at_).then fun (r, l1, at1) =>
      (sGap l1 at1).then fun (l2, at2) => sRulesL f media (rs ++ [r]) l2 at2

def sParse (s : B) : Ans (List PRule) :=
  if 4000 < s.length then .bad ⟨4, 0⟩ else
  (sGap s 0).then fun (l, at_) =>
  (sRulesL (s.length + 1) [] [] l at_).then fun (rs, l1, at1) => if l1 = [] then .ok rs else .bad ⟨2, at1⟩

def sDeclsOf (s : B) : Ans (List PDecl) :=
  if 4000 < s.length then .bad ⟨4, 0⟩ else
  (sDecls s 0).then fun (ds, l1, at1) => if l1 = [] then .ok ds else .bad ⟨2, at1⟩

/-! ### what is printed -/
def printOne (d : PDecl) : B := d.name ++ [58, 32] ++ d.val ++ (if d.strong then [32, 33] ++ importantWord else [])
def sPrint : List PDecl → B
  | [] => []
  | [d] => printOne d
  | d :: ds => printOne d ++ [59, 32] ++ sPrint ds

end Go.Proofs.Ytplbdlgmjehckab
