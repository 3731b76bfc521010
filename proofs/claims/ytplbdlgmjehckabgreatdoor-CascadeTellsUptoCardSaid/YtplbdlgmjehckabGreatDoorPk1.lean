/-
  Lemmas for the claims of this seat: the program's functions walked, and plain laws. In this order: Txt PgSpec ShSpec PrSpec MtSpec MtLaws CaSpec.
-/
import Derived.Lib.Index
import Derived.Lib.Strings
import Derived.Laws.Strings
namespace Go.Proofs.YtplbdlgmjehckabGreatDoor
set_option linter.unusedVariables false
set_option linter.unusedSimpArgs false
abbrev B := List UInt8
def str (l : B) : ByteArray := ⟨l.toArray⟩
@[go_sem, simp] theorem str_toList (l : B) : (str l).toList = l := ByteArray.toList_mk l
@[go_sem, simp] theorem str_data (l : B) : (str l).data.toList = l := rfl
@[go_sem, simp] theorem str_size (l : B) : (str l).size = l.length := rfl
theorem eq_str (s : ByteArray) : s = str s.data.toList := rfl
theorem str_inj {a b : B} (h : str a = str b) : a = b := by
  have := congrArg (fun s : ByteArray => s.data.toList) h; simpa using this
@[go_sem] theorem str_extract (l : B) (a b : Nat) : (str l).extract a b = str ((l.drop a).take (b - a)) := Lib.extract_eq (str l) a b
@[go_sem] theorem take_rest (l : B) (a : Nat) : (l.drop a).take (l.length - a) = l.drop a := List.take_of_length_le (by simp)
theorem str_append (a b : B) : str a ++ str b = str (a ++ b) := by
  unfold str; apply ByteArray.ext; simp
@[go_sem] theorem str_append_mk (a b : B) : str a ++ ByteArray.mk b.toArray = str (a ++ b) := str_append a b
@[go_sem] theorem mk_append_str (a b : B) : ByteArray.mk a.toArray ++ str b = str (a ++ b) := str_append a b
attribute [go_sem] str_append
theorem str_lt {l : B} {k : Nat} (h : k < (str l).size) : k < l.length := h
@[go_sem] theorem str_get (l : B) (k : Nat) (h : k < (str l).size) : (str l)[k] = l[k]'(str_lt h) := rfl
def isLow (c : UInt8) : Bool := decide (97 ≤ c.toNat) && decide (c.toNat ≤ 122)
def isMore (c : UInt8) : Bool := isLow c || (decide (48 ≤ c.toNat) && decide (c.toNat ≤ 57)) || decide (c.toNat = 45)
def nameLen : B → Nat
  | [] => 0
  | c :: t => if isLow c then 1 + (t.takeWhile isMore).length else 0
def named (s : B) : Bool := decide (1 ≤ s.length) && decide (s.length ≤ 20) && decide (nameLen s = s.length)
def findSub (sub : B) : B → Option Nat
  | [] => if sub.isEmpty then some 0 else none
  | c :: t => if sub.isPrefixOf (c :: t) then some 0 else (findSub sub t).map (· + 1)
theorem index_findSub (sub : B) : ∀ s : B, Lib.index s sub = match findSub sub s with | none => -1 | some k => (k : Int)
  | [] => by
    simp only [Lib.index, findSub]
    split <;> rfl
  | c :: t => by
    simp only [Lib.index, findSub]
    split
    · rfl
    · rw [index_findSub sub t]
      cases h : findSub sub t with
      | none => simp
      | some k =>
        have : ¬ ((k : Int) == -1) = true := by simp
        simp [this]
theorem findSub_le (sub : B) : ∀ (s : B) (k : Nat), findSub sub s = some k → k + sub.length ≤ s.length
  | [], k, h => by
    simp only [findSub] at h
    split at h
    · rename_i he; cases h; simp at he; subst he; simp
    · cases h
  | c :: t, k, h => by
    simp only [findSub] at h
    split at h
    · rename_i he
      cases h
      have := (List.isPrefixOf_iff_prefix.1 he).length_le
      omega
    · cases hf : findSub sub t with
      | none => rw [hf] at h; cases h
      | some j =>
        rw [hf] at h
        cases h
        have := findSub_le sub t j hf
        simp only [List.length_cons]; omega
theorem takeWhile_len_le (p : UInt8 → Bool) (l : B) : (l.takeWhile p).length ≤ l.length := (List.takeWhile_prefix p).length_le
theorem nameLen_le (l : B) : nameLen l ≤ l.length := by
  cases l with
  | nil => simp [nameLen]
  | cons c t =>
    simp only [nameLen]
    split
    · have := takeWhile_len_le isMore t; simp only [List.length_cons]; omega
    · omega
def inName (j : Nat) (c : UInt8) : Bool := if j = 0 then isLow c else isMore c
theorem nameLen_in (l : B) (j : Nat) (h : j < nameLen l) : ∃ h' : j < l.length, inName j (l[j]) = true := by
  cases l with
  | nil => simp [nameLen] at h
  | cons c t =>
    simp only [nameLen] at h
    split at h
    · rename_i hc
      cases j with
      | zero => exact ⟨by simp, by simpa [inName] using hc⟩
      | succ j =>
        have h1 : j < (t.takeWhile isMore).length := by omega
        have h2 := takeWhile_len_le isMore t
        refine ⟨by simp only [List.length_cons]; omega, ?_⟩
        have hp := List.takeWhile_prefix isMore (l := t)
        have e : t[j]'(by omega) = (t.takeWhile isMore)[j] := (List.IsPrefix.getElem hp h1).symm
        have hm : isMore ((t.takeWhile isMore)[j]) = true := by
          have := List.all_takeWhile (p := isMore) (l := t)
          rw [List.all_eq_true] at this
          exact this _ (List.getElem_mem h1)
        simp only [inName, List.getElem_cons_succ]
        rw [e]; simpa using hm
    · omega
theorem takeWhile_stop (p : UInt8 → Bool) : ∀ (l : B) (h : (l.takeWhile p).length < l.length), p (l[(l.takeWhile p).length]) = false
  | [], h => by simp at h
  | c :: t, h => by
    by_cases hc : p c = true
    · simp only [List.takeWhile_cons, hc, if_true, List.length_cons] at h ⊢
      simp only [List.getElem_cons_succ]
      exact takeWhile_stop p t (by omega)
    · simp only [List.takeWhile_cons, hc] at h ⊢
      simpa using hc
theorem takeWhile_in (p : UInt8 → Bool) (l : B) (j : Nat) (h : j < (l.takeWhile p).length) : ∃ h' : j < l.length, p (l[j]) = true := by
  have h2 := takeWhile_len_le p l
  refine ⟨by omega, ?_⟩
  have e : l[j]'(by omega) = (l.takeWhile p)[j] := (List.IsPrefix.getElem (List.takeWhile_prefix p (l := l)) h).symm
  have := List.all_takeWhile (p := p) (l := l)
  rw [List.all_eq_true] at this
  rw [e]; exact this _ (List.getElem_mem h)
theorem takeWhile_take (p : UInt8 → Bool) (l : B) : l.take (l.takeWhile p).length = l.takeWhile p := (List.prefix_iff_eq_take.1 (List.takeWhile_prefix p)).symm
theorem nameLen_out (l : B) (h : nameLen l < l.length) : inName (nameLen l) (l[nameLen l]) = false := by
  cases l with
  | nil => simp at h
  | cons c t =>
    by_cases hc : isLow c = true
    · have e : nameLen (c :: t) = (t.takeWhile isMore).length + 1 := by simp [nameLen, hc, Nat.add_comm]
      have h2 : (t.takeWhile isMore).length < t.length := by rw [e] at h; simpa using h
      have := takeWhile_stop isMore t h2
      have e2 : (c :: t)[nameLen (c :: t)] = t[(t.takeWhile isMore).length] := by simp [e]
      rw [e2, e]; simpa [inName] using this
    · have e : nameLen (c :: t) = 0 := by simp [nameLen, hc]
      have e2 : (c :: t)[nameLen (c :: t)] = c := by simp [e]
      rw [e2, e]; simpa [inName] using hc
theorem inName_yes {j : Nat} {c : UInt8} (h : inName j c = true) :
    (97 ≤ (c.toNat : Int) ∧ (c.toNat : Int) ≤ 122) ∨ (0 < j ∧ (48 ≤ (c.toNat : Int) ∧ (c.toNat : Int) ≤ 57)) ∨ (0 < j ∧ (c.toNat : Int) = 45) := by
  unfold inName at h
  split at h
  · simp [isLow] at h; omega
  · simp [isMore, isLow] at h; omega
theorem inName_no {j : Nat} {c : UInt8} (h : inName j c = false) :
    ((c.toNat : Int) < 97 ∨ 122 < (c.toNat : Int)) ∧ (j = 0 ∨ (((c.toNat : Int) < 48 ∨ 57 < (c.toNat : Int)) ∧ (c.toNat : Int) ≠ 45)) := by
  unfold inName at h
  split at h
  · simp [isLow] at h; omega
  · simp [isMore, isLow] at h; omega
end Go.Proofs.YtplbdlgmjehckabGreatDoor

namespace Go.Proofs.YtplbdlgmjehckabGreatDoor
set_option linter.unusedVariables false
set_option linter.unusedSimpArgs false
structure PAttr where
  name : B
  val : B
  lo : Int
  hi : Int
  deriving DecidableEq
structure PNode where
  name : B
  parent : Int
  attrs : List PAttr
  nameEnd : Int
  inF : Int
  inT : Int
  deriving DecidableEq
structure Flt where
  err : Nat
  pos : Nat
  deriving DecidableEq
inductive Ans (α : Type) where
  | bad (f : Flt)
  | ok (a : α)
  deriving DecidableEq
def Ans.then {α β : Type} (a : Ans α) (k : α → Ans β) : Ans β := match a with | .bad f => .bad f | .ok x => k x
@[simp] theorem Ans.bad_then {α β : Type} (f : Flt) (k : α → Ans β) : (Ans.bad f).then k = .bad f := rfl
@[simp] theorem Ans.ok_then {α β : Type} (x : α) (k : α → Ans β) : (Ans.ok x).then k = k x := rfl
def isVal (c : UInt8) : Bool := decide (32 ≤ c.toNat) && decide (c.toNat ≤ 126) && !decide (c.toNat = 34) && !decide (c.toNat = 60) && !decide (c.toNat = 38)
def pName (l : B) (at_ : Nat) : Ans (B × B × Nat) :=
  if nameLen l = 0 then .bad ⟨2, at_⟩ else if 20 < nameLen l then .bad ⟨7, at_⟩ else .ok (l.take (nameLen l), l.drop (nameLen l), at_ + nameLen l)
def pMust (w l : B) (at_ : Nat) : Ans (B × Nat) := if w.isPrefixOf l then .ok (l.drop w.length, at_ + w.length) else .bad ⟨2, at_⟩
def pVal (l : B) : B := l.takeWhile isVal
def pAttr (as : List PAttr) (l : B) (at_ : Nat) : Ans (PAttr × B × Nat) :=
  (pName (l.drop 1) (at_ + 1)).then fun (nm, l2, at2) =>
  if (as.any fun a => a.name == nm) || as.length == 8 then .bad ⟨if as.length = 8 then 5 else 7, at_ + 1⟩ else
  (pMust [61, 34] l2 at2).then fun (l3, at3) =>
  (pMust [34] (l3.drop (pVal l3).length) (at3 + (pVal l3).length)).then fun (l5, at5) =>
  .ok (⟨nm, pVal l3, (at_ : Int), (at5 : Int)⟩, l5, at5)
def pAttrs : Nat → List PAttr → B → Nat → Ans (List PAttr × B × Nat)
  | 0, as, l, at_ => .bad ⟨2, 0⟩
  | fuel + 1, as, l, at_ =>
    if [32].isPrefixOf l then (pAttr as l at_).then fun (a, l', at') => pAttrs fuel (as ++ [a]) l' at'
    else .ok (as, l, at_)
def pOpen (parent : Int) (deep count : Nat) (l : B) (at_ : Nat) : Ans (PNode × B × Nat) :=
  if 20 < deep then .bad ⟨4, at_⟩ else if count = 120 then .bad ⟨4, at_⟩ else
  (pMust [60] l at_).then fun (l1, at1) =>
  (pName l1 at1).then fun (nm, l2, at2) =>
  (pAttrs (l2.length + 1) [] l2 at2).then fun (as, l3, at3) =>
  (pMust [62] l3 at3).then fun (l4, at4) =>
  .ok (⟨nm, parent, as, at2, 0, 0⟩, l4, at4)
def styleName : B := [115, 116, 121, 108, 101]
def styleEnd : B := [60, 47, 115, 116, 121, 108, 101, 62]
def pInside (items : Int → Nat → List PNode → B → Nat → Ans (List PNode × B × Nat)) (deep : Nat) (ns : List PNode) (n : PNode) (l : B) (at_ : Nat) : Ans (List PNode × B × Nat) :=
  if n.name = styleName then
    match findSub styleEnd l with
    | none => .bad ⟨2, at_ + l.length⟩
    | some e => .ok (ns ++ [{ n with inF := (at_ : Int), inT := ((at_ + e : Nat) : Int) }], l.drop e, at_ + e)
  else items (ns.length : Int) (deep + 1) (ns ++ [n]) l at_
def pElem (items : Int → Nat → List PNode → B → Nat → Ans (List PNode × B × Nat)) (parent : Int) (deep : Nat) (ns : List PNode) (l : B) (at_ : Nat) : Ans (List PNode × B × Nat) :=
  (pOpen parent deep ns.length l at_).then fun (n, l1, at1) =>
  (pInside items deep ns n l1 at1).then fun (ns2, l2, at2) =>
  (pMust ([60, 47] ++ n.name ++ [62]) l2 at2).then fun (l3, at3) => .ok (ns2, l3, at3)
def pTextOk (c : UInt8) : Bool := decide (c.toNat = 10) || (decide (32 ≤ c.toNat) && decide (c.toNat ≤ 126))
def noteBegin : B := [60, 33, 45, 45]
def noteEnd : B := [45, 45, 62]
def pItems : Nat → Int → Nat → List PNode → B → Nat → Ans (List PNode × B × Nat)
  | 0, _, _, _, _, _ => .bad ⟨2, 0⟩
  | fuel + 1, parent, deep, ns, l, at_ =>
    match l with
    | [] => .ok (ns, [], at_)
    | c :: t =>
      if [60, 47].isPrefixOf (c :: t) then .ok (ns, c :: t, at_)
      else if noteBegin.isPrefixOf (c :: t) then
        match findSub noteEnd ((c :: t).drop 4) with
        | none => .bad ⟨2, at_ + (c :: t).length⟩
        | some e => pItems fuel parent deep ns ((c :: t).drop (4 + e + 3)) (at_ + (4 + e + 3))
      else if [60].isPrefixOf (c :: t) then
        (pElem (pItems fuel) parent deep ns (c :: t) at_).then fun (ns', l', at') => pItems fuel parent deep ns' l' at'
      else if pTextOk c then pItems fuel parent deep ns t (at_ + 1)
      else .bad ⟨2, at_⟩
def pParse (s : B) : Ans (List PNode) :=
  if 6000 < s.length then .bad ⟨4, 0⟩ else
  (pItems (s.length + 1) (-1) 1 [] s 0).then fun (ns, l, at_) => if l = [] then .ok ns else .bad ⟨2, at_⟩
def pGet (as : List PAttr) (name : B) : B × Bool :=
  match as.find? (fun a => a.name == name) with
  | some a => (a.val, true)
  | none => ([], false)
def lastWith (l : List PNode) (p : Int) : Nat → Int
  | 0 => -1
  | i + 1 => if (l[i]?).any (fun x => x.parent == p) then (i : Int) else lastWith l p i
def pAhead (l : List PNode) (k : Int) : Int :=
  if k < 0 ∨ (l.length : Int) ≤ k then -1 else
  match l[k.toNat]? with
  | some n => lastWith l n.parent k.toNat
  | none => -1
end Go.Proofs.YtplbdlgmjehckabGreatDoor

namespace Go.Proofs.YtplbdlgmjehckabGreatDoor
set_option linter.unusedVariables false
set_option linter.unusedSimpArgs false
structure PTest where
  kind : Int
  name : B
  val : B
  deriving DecidableEq
structure PPart where
  join : Int
  tests : List PTest
  deriving DecidableEq
abbrev PSel := List PPart
structure PDecl where
  name : B
  val : B
  strong : Bool
  deriving DecidableEq
structure PRule where
  media : B
  sels : List PSel
  decls : List PDecl
  lo : Int
  hi : Int
  deriving DecidableEq
def gapBegin : B := [47, 42]
def gapEnd : B := [42, 47]
def sGaps : Nat → B → Nat → Ans (B × Nat)
  | 0, _, _ => .bad ⟨2, 0⟩
  | f + 1, l, at_ =>
    match l with
    | [] => .ok ([], at_)
    | c :: t =>
      if c.toNat = 32 ∨ c.toNat = 10 then sGaps f t (at_ + 1)
      else if gapBegin.isPrefixOf (c :: t) then
        match findSub gapEnd ((c :: t).drop 2) with
        | none => .bad ⟨2, at_⟩
        | some e => sGaps f ((c :: t).drop (2 + e + 2)) (at_ + (2 + e + 2))
      else .ok (c :: t, at_)
def sGap (l : B) (at_ : Nat) : Ans (B × Nat) := sGaps (l.length + 1) l at_
def sName (l : B) (at_ : Nat) : Ans (B × B × Nat) :=
  if nameLen l = 0 ∨ 20 < nameLen l then .bad ⟨2, at_⟩ else .ok (l.take (nameLen l), l.drop (nameLen l), at_ + nameLen l)
def firstWord : B := [58, 102, 105, 114, 115, 116]
def sAttrTest (l : B) (at_ : Nat) : Ans (PTest × B × Nat) :=
  (sName l at_).then fun (nm, l1, at1) =>
  if nm = styleName then .bad ⟨1, at1⟩ else
  if [61].isPrefixOf l1 then
    (sName (l1.drop 1) (at1 + 1)).then fun (v, l2, at2) =>
    (pMust [93] l2 at2).then fun (l3, at3) => .ok (⟨5, nm, v⟩, l3, at3)
  else (pMust [93] l1 at1).then fun (l3, at3) => .ok (⟨4, nm, []⟩, l3, at3)
def sTest (l : B) (at_ : Nat) : Ans (Option PTest × B × Nat) :=
  if [46].isPrefixOf l then (sName (l.drop 1) (at_ + 1)).then fun (nm, l1, at1) => .ok (some ⟨2, nm, []⟩, l1, at1)
  else if [35].isPrefixOf l then (sName (l.drop 1) (at_ + 1)).then fun (nm, l1, at1) => .ok (some ⟨3, nm, []⟩, l1, at1)
  else if firstWord.isPrefixOf l then .ok (some ⟨6, [], []⟩, l.drop 6, at_ + 6)
  else if [91].isPrefixOf l then (sAttrTest (l.drop 1) (at_ + 1)).then fun (t, l1, at1) => .ok (some t, l1, at1)
  else .ok (none, l, at_)
def sTestsL : Nat → List PTest → Bool → B → Nat → Ans (List PTest × B × Nat)
  | 0, _, _, _, _ => .bad ⟨2, 0⟩
  | f + 1, ts, some_, l, at_ =>
    (sTest l at_).then fun (t, l1, at1) =>
    match t with
    | none => if some_ then .ok (ts, l, at_) else .bad ⟨2, at_⟩
    | some t => if ts.length = 6 then .bad ⟨5, at1⟩ else sTestsL f (ts ++ [t]) true l1 at1
def sHead (l : B) (at_ : Nat) : Ans (List PTest × Bool × B × Nat) :=
  if [42].isPrefixOf l then .ok ([], true, l.drop 1, at_ + 1)
  else if nameLen l = 0 then .ok ([], false, l, at_)
  else (sName l at_).then fun (nm, l1, at1) => .ok ([⟨1, nm, []⟩], true, l1, at1)
def sTests (l : B) (at_ : Nat) : Ans (List PTest × B × Nat) :=
  (sHead l at_).then fun (ts, some_, l1, at1) => sTestsL (l1.length + 1) ts some_ l1 at1
def selEnds (gap : Bool) (l : B) : Bool := !gap || l.isEmpty || [44].isPrefixOf l || [123].isPrefixOf l
def sJoin (l : B) (at_ : Nat) : Ans (Option Int × B × Nat) :=
  (sGap l at_).then fun (l1, at1) =>
  if [62].isPrefixOf l1 then (sGap (l1.drop 1) (at1 + 1)).then fun (l2, at2) => .ok (some 2, l2, at2)
  else if [43].isPrefixOf l1 then (sGap (l1.drop 1) (at1 + 1)).then fun (l2, at2) => .ok (some 3, l2, at2)
  else if selEnds (decide (at_ < at1)) l1 then .ok (none, l1, at1) else .ok (some 1, l1, at1)
def sSelL : Nat → List PPart → B → Nat → Ans (PSel × B × Nat)
  | 0, _, _, _ => .bad ⟨2, 0⟩
  | f + 1, ps, l, at_ =>
    (sJoin l at_).then fun (j, l1, at1) =>
    match j with
    | none => .ok (ps, l1, at1)
    | some j => if ps.length = 6 then .bad ⟨5, at1⟩ else
      (sTests l1 at1).then fun (ts, l2, at2) => sSelL f (ps ++ [⟨j, ts⟩]) l2 at2
def sSel (l : B) (at_ : Nat) : Ans (PSel × B × Nat) :=
  (sTests l at_).then fun (ts, l1, at1) => sSelL (l1.length + 1) [⟨0, ts⟩] l1 at1
def isWord (c : UInt8) : Bool := isLow c || (decide (48 ≤ c.toNat) && decide (c.toNat ≤ 57)) || decide (c.toNat = 35) || decide (c.toNat = 46) || decide (c.toNat = 37) || decide (c.toNat = 45)
def joinW : List B → B
  | [] => []
  | [w] => w
  | w :: ws => w ++ [32] ++ joinW ws
def sValL : Nat → List B → B → Nat → Ans (B × B × Nat)
  | 0, _, _, _ => .bad ⟨2, 0⟩
  | f + 1, ws, l, at_ =>
    let w := l.takeWhile isWord
    if w = [] then (if ws = [] then .bad ⟨2, at_⟩ else .ok (joinW ws, l, at_))
    else if 60 < (joinW (ws ++ [w])).length then .bad ⟨4, at_⟩
    else (sGap (l.drop w.length) (at_ + w.length)).then fun (l1, at1) => sValL f (ws ++ [w]) l1 at1
def sVal (l : B) (at_ : Nat) : Ans (B × B × Nat) := sValL (l.length + 1) [] l at_
def importantWord : B := [105, 109, 112, 111, 114, 116, 97, 110, 116]
def sStrong (l : B) (at_ : Nat) : Ans (Bool × B × Nat) :=
  if [33].isPrefixOf l then
    (pMust importantWord (l.drop 1) (at_ + 1)).then fun (l1, at1) => (sGap l1 at1).then fun (l2, at2) => .ok (true, l2, at2)
  else .ok (false, l, at_)
def sDecl (l : B) (at_ : Nat) : Ans (PDecl × B × Nat) :=
  (sName l at_).then fun (nm, l1, at1) =>
  (sGap l1 at1).then fun (l2, at2) =>
  (pMust [58] l2 at2).then fun (l3, at3) =>
  (sGap l3 at3).then fun (l4, at4) =>
  (sVal l4 at4).then fun (v, l5, at5) =>
  (sStrong l5 at5).then fun (st, l6, at6) => .ok (⟨nm, v, st⟩, l6, at6)
def sDeclsL : Nat → List PDecl → B → Nat → Ans (List PDecl × B × Nat)
  | 0, _, _, _ => .bad ⟨2, 0⟩
  | f + 1, ds, l, at_ =>
    if l.isEmpty || [125].isPrefixOf l then .ok (ds, l, at_)
    else if ds.length = 20 then .bad ⟨5, at_⟩
    else (sDecl l at_).then fun (d, l1, at1) =>
      if [59].isPrefixOf l1 then (sGap (l1.drop 1) (at1 + 1)).then fun (l2, at2) => sDeclsL f (ds ++ [d]) l2 at2
      else .ok (ds ++ [d], l1, at1)
def sDecls (l : B) (at_ : Nat) : Ans (List PDecl × B × Nat) :=
  (sGap l at_).then fun (l1, at1) => sDeclsL (l1.length + 1) [] l1 at1
def sSelsL : Nat → List PSel → B → Nat → Ans (List PSel × B × Nat)
  | 0, _, _, _ => .bad ⟨2, 0⟩
  | f + 1, ss, l, at_ =>
    if ss.length = 8 then .bad ⟨5, at_⟩ else
    (sSel l at_).then fun (x, l1, at1) =>
    if [44].isPrefixOf l1 then (sGap (l1.drop 1) (at1 + 1)).then fun (l2, at2) => sSelsL f (ss ++ [x]) l2 at2
    else .ok (ss ++ [x], l1, at1)
def sRule (media : B) (l : B) (at_ : Nat) : Ans (PRule × B × Nat) :=
  (sSelsL (l.length + 1) [] l at_).then fun (ss, l1, at1) =>
  (pMust [123] l1 at1).then fun (l2, at2) =>
  (sDecls l2 at2).then fun (ds, l3, at3) =>
  (pMust [125] l3 at3).then fun (l4, at4) => .ok (⟨media, ss, ds, (at_ : Int), (at4 : Int)⟩, l4, at4)
def mediaWord : B := [64, 109, 101, 100, 105, 97]
def sMediaHead (l : B) (at_ : Nat) : Ans (B × B × Nat) :=
  (sGap l at_).then fun (l1, at1) =>
  if at1 = at_ then .bad ⟨2, at1⟩ else
  (sName l1 at1).then fun (nm, l2, at2) =>
  (sGap l2 at2).then fun (l3, at3) =>
  (pMust [123] l3 at3).then fun (l4, at4) => .ok (nm, l4, at4)
def sRulesL : Nat → B → List PRule → B → Nat → Ans (List PRule × B × Nat)
  | 0, _, _, _, _ => .bad ⟨2, 0⟩
  | f + 1, media, rs, l, at_ =>
    if l.isEmpty || [125].isPrefixOf l then .ok (rs, l, at_)
    else if media.isEmpty && mediaWord.isPrefixOf l then
      (sMediaHead (l.drop 6) (at_ + 6)).then fun (nm, l1, at1) =>
      (sGap l1 at1).then fun (l2, at2) =>
      (sRulesL f nm rs l2 at2).then fun (rs', l3, at3) =>
      (pMust [125] l3 at3).then fun (l4, at4) =>
      (sGap l4 at4).then fun (l5, at5) => sRulesL f media rs' l5 at5
    else if rs.length = 60 then .bad ⟨5, at_⟩
    else (sRule media l at_).then fun (r, l1, at1) =>
      (sGap l1 at1).then fun (l2, at2) => sRulesL f media (rs ++ [r]) l2 at2
def sParse (s : B) : Ans (List PRule) :=
  if 4000 < s.length then .bad ⟨4, 0⟩ else
  (sGap s 0).then fun (l, at_) =>
  (sRulesL (s.length + 1) [] [] l at_).then fun (rs, l1, at1) => if l1 = [] then .ok rs else .bad ⟨2, at1⟩
def sDeclsOf (s : B) : Ans (List PDecl) :=
  if 4000 < s.length then .bad ⟨4, 0⟩ else
  (sDecls s 0).then fun (ds, l1, at1) => if l1 = [] then .ok ds else .bad ⟨2, at1⟩
def printOne (d : PDecl) : B := d.name ++ [58, 32] ++ d.val ++ (if d.strong then [32, 33] ++ importantWord else [])
def sPrint : List PDecl → B
  | [] => []
  | [d] => printOne d
  | d :: ds => printOne d ++ [59, 32] ++ sPrint ds
end Go.Proofs.YtplbdlgmjehckabGreatDoor

namespace Go.Proofs.YtplbdlgmjehckabGreatDoor
set_option linter.unusedVariables false
set_option linter.unusedSimpArgs false
def splitB : B → List B
  | [] => [[]]
  | c :: t => if c = 32 then [] :: splitB t else match splitB t with
    | [] => [[c]]
    | w :: ws => (c :: w) :: ws
theorem splitB_ne (l : B) : splitB l ≠ [] := by
  cases l with
  | nil => simp [splitB]
  | cons c t =>
    simp only [splitB]
    split
    · simp
    · split <;> simp
def edgeName : B := [101, 100, 103, 101]
def edgeTop : B := [101, 100, 103, 101, 45, 116, 111, 112]
def edgeRight : B := [101, 100, 103, 101, 45, 114, 105, 103, 104, 116]
def edgeBottom : B := [101, 100, 103, 101, 45, 98, 111, 116, 116, 111, 109]
def edgeLeft : B := [101, 100, 103, 101, 45, 108, 101, 102, 116]
def edges (a b c d : B) (st : Bool) : List PDecl := [⟨edgeTop, a, st⟩, ⟨edgeRight, b, st⟩, ⟨edgeBottom, c, st⟩, ⟨edgeLeft, d, st⟩]
def pExpand (d : PDecl) : Option (List PDecl) :=
  if d.name = edgeName then
    match splitB d.val with
    | [a] => some (edges a a a a d.strong)
    | [a, b] => some (edges a b a b d.strong)
    | [a, b, c] => some (edges a b c b d.strong)
    | [a, b, c, e] => some (edges a b c e d.strong)
    | _ => none
  else some [d]
def pAll : List PDecl → Option (List PDecl)
  | [] => some []
  | d :: ds => match pExpand d with
    | none => none
    | some x => match pAll ds with
      | none => none
      | some y => some (x ++ y)
def colorName : B := [99, 111, 108, 111, 114]
def fontName : B := [102, 111, 110, 116]
def sizeName : B := [115, 105, 122, 101]
def pInherits (n : B) : Bool := n == colorName || n == fontName || n == sizeName
def pInitial (n : B) : B :=
  if n = colorName then [98, 108, 97, 99, 107] else if n = fontName then [112, 108, 97, 105, 110] else if n = sizeName then [49, 48]
  else if n = edgeTop ∨ n = edgeRight ∨ n = edgeBottom ∨ n = edgeLeft then [48] else [110, 111, 110, 101]
theorem all_cons {d : PDecl} {ds x : List PDecl} (h : pAll (d :: ds) = some x) : ∃ a b, pExpand d = some a ∧ pAll ds = some b ∧ x = a ++ b := by
  simp only [pAll] at h
  cases h1 : pExpand d with
  | none => rw [h1] at h; cases h
  | some a =>
    rw [h1] at h
    cases h2 : pAll ds with
    | none => rw [h2] at h; cases h
    | some b => rw [h2] at h; cases h; exact ⟨a, b, rfl, rfl, rfl⟩
theorem all_app {xs ys : List PDecl} : pAll (xs ++ ys) = match pAll xs with | none => none | some a => match pAll ys with | none => none | some b => some (a ++ b) := by
  induction xs with
  | nil => simp only [List.nil_append, pAll]; cases pAll ys <;> rfl
  | cons d ds ih =>
    simp only [List.cons_append, pAll]
    cases pExpand d with
    | none => rfl
    | some a =>
      simp only [ih]
      cases pAll ds with
      | none => rfl
      | some b =>
        cases pAll ys with
        | none => rfl
        | some c => simp
def joinB : List B → B
  | [] => []
  | [w] => w
  | w :: ws => w ++ [32] ++ joinB ws
theorem splitB_word {w : B} (h : ∀ c ∈ w, c ≠ 32) (r : B) : splitB (w ++ (32 :: r)) = w :: splitB r := by
  induction w with
  | nil => simp [splitB]
  | cons c w ih =>
    simp only [List.cons_append, splitB]
    rw [if_neg (h c (by simp)), ih (fun x hx => h x (by simp [hx]))]
theorem splitB_last {w : B} (h : ∀ c ∈ w, c ≠ 32) : splitB w = [w] := by
  induction w with
  | nil => rfl
  | cons c w ih =>
    simp only [splitB]
    rw [if_neg (h c (by simp)), ih (fun x hx => h x (by simp [hx]))]
end Go.Proofs.YtplbdlgmjehckabGreatDoor

namespace Go.Proofs.YtplbdlgmjehckabGreatDoor
set_option linter.unusedVariables false
set_option linter.unusedSimpArgs false
def className : B := [99, 108, 97, 115, 115]
def idName : B := [105, 100]
def mTestN (l : List PNode) (k : Nat) (n : PNode) (t : PTest) : Bool :=
  if t.kind = 1 then n.name == t.name
  else if t.kind = 2 then !t.name.isEmpty && (splitB (pGet n.attrs className).1).contains t.name
  else if t.kind = 3 then (pGet n.attrs idName).2 && (pGet n.attrs idName).1 == t.name
  else if t.kind = 4 then (pGet n.attrs t.name).2
  else if t.kind = 5 then (pGet n.attrs t.name).2 && (pGet n.attrs t.name).1 == t.val
  else if t.kind = 6 then decide (pAhead l (k : Int) < 0)
  else false
def mTest (l : List PNode) (k : Nat) (t : PTest) : Bool := match l[k]? with
  | none => false
  | some n => mTestN l k n t
def mPart (l : List PNode) (k : Nat) (p : PPart) : Bool := p.tests.all (mTest l k)
def parentOf (l : List PNode) (k : Nat) : Int := match l[k]? with
  | none => -1
  | some n => n.parent
def upsF (l : List PNode) : Nat → Nat → List Nat
  | 0, _ => []
  | f + 1, k => if 0 ≤ parentOf l k ∧ parentOf l k < (k : Int) then (parentOf l k).toNat :: upsF l f (parentOf l k).toNat else []
def ups (l : List PNode) (k : Nat) : List Nat := upsF l k k
def inR (l : List PNode) (k : Int) : Bool := decide (0 ≤ k) && decide (k < (l.length : Int))
def mJoin (l : List PNode) (j : Int) (q : Int → Bool) (k : Nat) : Bool :=
  if j = 2 then q (parentOf l k) else if j = 3 then q (pAhead l (k : Int)) else if j = 1 then (ups l k).any (fun u => q (u : Int)) else false
def mAt (l : List PNode) : List PPart → Int → Bool
  | [], k => inR l k
  | p :: rest, k => inR l k && mPart l k.toNat p && (rest.isEmpty || mJoin l p.join (mAt l rest) k.toNat)
def mMatches (l : List PNode) (k : Int) (s : PSel) : Bool := !s.isEmpty && mAt l s.reverse k
structure PWt where
  a : Nat
  b : Nat
  c : Nat
  deriving DecidableEq
def wLt (x y : PWt) : Bool := decide (x.a < y.a) || (decide (x.a = y.a) && (decide (x.b < y.b) || (decide (x.b = y.b) && decide (x.c < y.c))))
def wTest (w : PWt) (t : PTest) : PWt :=
  if t.kind = 3 then ⟨w.a + 1, w.b, w.c⟩ else if t.kind = 1 then ⟨w.a, w.b, w.c + 1⟩ else if t.kind = 2 ∨ t.kind = 4 ∨ t.kind = 5 ∨ t.kind = 6 then ⟨w.a, w.b + 1, w.c⟩ else w
def wPart (w : PWt) (p : PPart) : PWt := p.tests.foldl wTest w
def mWeigh (s : PSel) : PWt := s.foldl wPart ⟨0, 0, 0⟩
def bestStep (l : List PNode) (k : Int) (acc : PWt × Bool) (s : PSel) : PWt × Bool :=
  if mMatches l k s && (!acc.2 || wLt acc.1 (mWeigh s)) then (mWeigh s, true) else acc
def mBest (l : List PNode) (k : Int) (sels : List PSel) : PWt × Bool := sels.foldl (bestStep l k) (⟨0, 0, 0⟩, false)
theorem upsF_fuel (l : List PNode) : ∀ (f g k : Nat), k ≤ f → k ≤ g → upsF l f k = upsF l g k
  | 0, g, k, hf, hg => by
    obtain rfl : k = 0 := by omega
    cases g with
    | zero => rfl
    | succ g => simp only [upsF]; rw [if_neg (by omega)]
  | f + 1, 0, k, hf, hg => by
    obtain rfl : k = 0 := by omega
    simp only [upsF]; rw [if_neg (by omega)]
  | f + 1, g + 1, k, hf, hg => by
    simp only [upsF]
    split
    · rw [upsF_fuel l f g _ (by omega) (by omega)]
    · rfl
theorem ups_eq (l : List PNode) (k : Nat) : ups l k = if 0 ≤ parentOf l k ∧ parentOf l k < (k : Int) then (parentOf l k).toNat :: ups l (parentOf l k).toNat else [] := by
  unfold ups
  cases k with
  | zero => simp only [upsF]; rw [if_neg (by omega)]
  | succ k =>
    simp only [upsF]
    split
    · rw [upsF_fuel l k _ _ (by omega) (Nat.le_refl _)]
    · rfl
theorem mJoin_mono {l : List PNode} {j : Int} {q r : Int → Bool} {k : Nat} (h : ∀ x, q x = true → r x = true) (hq : mJoin l j q k = true) : mJoin l j r k = true := by
  unfold mJoin at hq ⊢
  split
  · rename_i hj; rw [if_pos hj] at hq; exact h _ hq
  · rename_i h2
    rw [if_neg h2] at hq
    split
    · rename_i hj; rw [if_pos hj] at hq; exact h _ hq
    · rename_i h3
      rw [if_neg h3] at hq
      split
      · rename_i hj
        rw [if_pos hj] at hq
        rw [List.any_eq_true] at hq ⊢
        obtain ⟨u, hu, hx⟩ := hq
        exact ⟨u, hu, h _ hx⟩
      · rename_i hj; rw [if_neg hj] at hq; cases hq
theorem mAt_cons (l : List PNode) (p : PPart) (rest : List PPart) (k : Int) : mAt l (p :: rest) k = true ↔ inR l k = true ∧ mPart l k.toNat p = true ∧ (rest = [] ∨ mJoin l p.join (mAt l rest) k.toNat = true) := by
  simp only [mAt, Bool.and_eq_true, Bool.or_eq_true, List.isEmpty_iff, and_assoc]
end Go.Proofs.YtplbdlgmjehckabGreatDoor

namespace Go.Proofs.YtplbdlgmjehckabGreatDoor
set_option linter.unusedVariables false
set_option linter.unusedSimpArgs false
inductive Asks (l : List PNode) : List PPart → List PPart → Prop
  | nil : Asks l [] []
  | cons {p q : PPart} {ps qs : List PPart} (hp : ∀ k, mPart l k p = true → mPart l k q = true) (hj : ∀ (f : Int → Bool) (k : Nat), (∀ x, f x = true → inR l x = true) → mJoin l p.join f k = true → mJoin l q.join f k = true) (hs : Asks l ps qs) : Asks l (p :: ps) (q :: qs)
theorem mAt_inR {l : List PNode} {ps : List PPart} {k : Int} (h : mAt l ps k = true) : inR l k = true := by
  cases ps with
  | nil => exact h
  | cons p ps => exact ((mAt_cons l p ps k).1 h).1
theorem Asks.at {l : List PNode} {ps qs : List PPart} (h : Asks l ps qs) : ∀ k, mAt l ps k = true → mAt l qs k = true := by
  induction h with
  | nil => intro k h; exact h
  | cons hp hj hs ih =>
    intro k hk
    rw [mAt_cons] at hk ⊢
    refine ⟨hk.1, hp _ hk.2.1, ?_⟩
    rcases hk.2.2 with h | h
    · subst h; cases hs; exact .inl rfl
    · exact .inr (hj _ _ (fun x hx => mAt_inR hx) (mJoin_mono ih h))
theorem Asks.refl (l : List PNode) : ∀ ps, Asks l ps ps
  | [] => .nil
  | p :: ps => .cons (fun _ h => h) (fun _ _ _ h => h) (Asks.refl l ps)
theorem Asks.len {l : List PNode} {ps qs : List PPart} (h : Asks l ps qs) : ps.length = qs.length := by
  induction h with
  | nil => rfl
  | cons _ _ _ ih => simp [ih]
def PWt.le (x y : PWt) : Prop := x.a ≤ y.a ∧ x.b ≤ y.b ∧ x.c ≤ y.c
theorem PWt.le.trans {x y z : PWt} (h : x.le y) (g : y.le z) : x.le z := ⟨Nat.le_trans h.1 g.1, Nat.le_trans h.2.1 g.2.1, Nat.le_trans h.2.2 g.2.2⟩
def Right (l : List PNode) : Prop := ∀ (i : Nat) (n : PNode), l[i]? = some n → n.parent < (i : Int) ∧ -1 ≤ n.parent
theorem wLt_irrefl (x : PWt) : wLt x x = false := by simp [wLt]
theorem wLt_trans {x y z : PWt} (h : wLt x y = true) (g : wLt y z = true) : wLt x z = true := by
  simp [wLt] at h g ⊢; omega
theorem wLt_asymm {x y : PWt} (h : wLt x y = true) : wLt y x = false := by
  cases g : wLt y x with
  | false => rfl
  | true => have := wLt_trans h g; rw [wLt_irrefl] at this; cases this
structure IsBest (l : List PNode) (k : Int) (sels : List PSel) (r : PWt × Bool) : Prop where
  some_ : r.2 = true ↔ ∃ s ∈ sels, mMatches l k s = true
  zero : r.2 = false → r.1 = ⟨0, 0, 0⟩
  one : r.2 = true → ∃ s ∈ sels, mMatches l k s = true ∧ mWeigh s = r.1
  most : ∀ s ∈ sels, mMatches l k s = true → wLt r.1 (mWeigh s) = false
end Go.Proofs.YtplbdlgmjehckabGreatDoor

namespace Go.Proofs.YtplbdlgmjehckabGreatDoor
set_option linter.unusedVariables false
set_option linter.unusedSimpArgs false
def bLt : B → B → Bool
  | [], [] => false
  | [], _ :: _ => true
  | _ :: _, [] => false
  | a :: x, b :: y => decide (a.toNat < b.toNat) || (decide (a.toNat = b.toNat) && bLt x y)
theorem bLt_irrefl : ∀ x, bLt x x = false
  | [] => rfl
  | a :: x => by simp [bLt, bLt_irrefl x]
theorem bLt_trans : ∀ {x y z : B}, bLt x y = true → bLt y z = true → bLt x z = true
  | [], [], z, h, _ => by cases h
  | [], _ :: _, [], _, h => by cases h
  | [], _ :: _, _ :: _, _, _ => rfl
  | _ :: _, [], _, h, _ => by cases h
  | _ :: _, _ :: _, [], _, h => by cases h
  | a :: x, b :: y, c :: z, h, g => by
    simp only [bLt, Bool.or_eq_true, Bool.and_eq_true, decide_eq_true_eq] at h g ⊢
    rcases h with h | ⟨h, h'⟩ <;> rcases g with g | ⟨g, g'⟩
    · left; omega
    · left; omega
    · left; omega
    · right; exact ⟨by omega, bLt_trans h' g'⟩
theorem bLt_total : ∀ {x y : B}, bLt x y = false → bLt y x = false → x = y
  | [], [], _, _ => rfl
  | [], _ :: _, h, _ => by cases h
  | _ :: _, [], _, h => by cases h
  | a :: x, b :: y, h, g => by
    simp only [bLt, Bool.or_eq_false_iff, Bool.and_eq_false_iff, decide_eq_false_iff_not] at h g
    have e : a.toNat = b.toNat := by omega
    have h2 := h.2.resolve_left (by omega)
    have g2 := g.2.resolve_left (by omega)
    rw [UInt8.toNat_inj.1 e, bLt_total h2 g2]
structure PClaim where
  d : PDecl
  own : Bool
  w : PWt
  deriving DecidableEq
def beats (b a : PClaim) : Bool :=
  if a.d.strong = b.d.strong then (if a.own = b.own then !wLt b.w a.w else b.own) else b.d.strong
def comb : Option PClaim → Option PClaim → Option PClaim
  | none, b => b
  | some a, none => some a
  | some a, some b => if beats b a then some b else some a
def winStep (n : B) (acc : Option PClaim) (c : PClaim) : Option PClaim := if c.d.name = n then comb acc (some c) else acc
def winner (cs : List PClaim) (n : B) : Option PClaim := cs.foldl (winStep n) none
def insName (n : B) : List B → List B
  | [] => [n]
  | x :: xs => if bLt n x then n :: x :: xs else if bLt x n then x :: insName n xs else x :: xs
def namesOf (cs : List PClaim) : List B := cs.foldl (fun acc c => insName c.d.name acc) []
def cLook (cs : List PClaim) : List PDecl := (namesOf cs).filterMap fun n => (winner cs n).map (·.d)
def counts (r : PRule) (media : List B) : Bool := r.media.isEmpty || media.contains r.media
def ruleClaims (l : List PNode) (k : Int) (media : List B) : List PRule → Ans (List PClaim)
  | [] => .ok []
  | r :: rs =>
    if (mBest l k r.sels).2 && counts r media then
      match pAll r.decls with
      | none => .bad ⟨5, 0⟩
      | some d => (ruleClaims l k media rs).then fun cs => .ok (d.map (fun x => ⟨x, false, (mBest l k r.sels).1⟩) ++ cs)
    else ruleClaims l k media rs
def ownDecls (n : PNode) : Ans (List PDecl) :=
  match sDeclsOf (pGet n.attrs styleName).1 with
  | .bad f => .bad ⟨f.err, 0⟩
  | .ok ds => match pAll ds with
    | none => .bad ⟨5, 0⟩
    | some d => .ok d
def ownClaims (ds : List PDecl) : List PClaim := ds.map fun x => ⟨x, true, ⟨0, 0, 0⟩⟩
def cClaims (l : List PNode) (k : Int) (n : PNode) (rules : List PRule) (media : List B) : Ans (List PClaim) :=
  (ruleClaims l k media rules).then fun a => (ownDecls n).then fun b => .ok (a ++ ownClaims b)
def cDeclared (l : List PNode) (k : Int) (rules : List PRule) (media : List B) : Ans (List PDecl) :=
  if inR l k then
    match l[k.toNat]? with
    | none => .bad ⟨6, 0⟩
    | some n => (cClaims l k n rules media).then fun cs => .ok (cLook cs)
  else .bad ⟨6, 0⟩
def lookFind (look : List PDecl) (name : B) : Option PDecl := look.find? fun d => d.name == name
def cValueF : Nat → List PNode → Int → List PRule → List B → B → Ans B
  | 0, _, _, _, _, _ => .bad ⟨6, 0⟩
  | f + 1, l, k, rules, media, name =>
    (cDeclared l k rules media).then fun look =>
    match lookFind look name with
    | some d => .ok d.val
    | none => if pInherits name && decide (0 ≤ parentOf l k.toNat) && decide (parentOf l k.toNat < k) then cValueF f l (parentOf l k.toNat) rules media name else .ok (pInitial name)
def cValue (l : List PNode) (k : Int) (rules : List PRule) (media : List B) (name : B) : Ans B := cValueF (k.toNat + 1) l k rules media name
theorem beats_refl (a : PClaim) : beats a a = true := by simp [beats, wLt_irrefl]
theorem beats_trans {a b c : PClaim} (h : beats b a = true) (g : beats c b = true) : beats c a = true := by
  unfold beats at h g ⊢
  obtain ⟨⟨_, _, sa⟩, oa, wa⟩ := a
  obtain ⟨⟨_, _, sb⟩, ob, wb⟩ := b
  obtain ⟨⟨_, _, sc⟩, oc, wc⟩ := c
  simp only at h g ⊢
  have hw : (!wLt wb wa) = true → (!wLt wc wb) = true → (!wLt wc wa) = true := by
    simp only [Bool.not_eq_true']
    intro h1 h2
    cases h3 : wLt wc wa with
    | false => rfl
    | true =>
      exfalso
      simp [wLt] at h1 h2 h3
      omega
  cases sa <;> cases sb <;> cases sc <;> cases oa <;> cases ob <;> cases oc <;> simp at h g ⊢ <;> first
    | exact hw (by simpa using h) (by simpa using g) |> fun x => by simpa using x
    | trivial
theorem beats_total (a b : PClaim) : beats b a = true ∨ beats a b = true := by
  unfold beats
  obtain ⟨⟨_, _, sa⟩, oa, wa⟩ := a
  obtain ⟨⟨_, _, sb⟩, ob, wb⟩ := b
  simp only
  cases h : wLt wb wa with
  | false => cases sa <;> cases sb <;> cases oa <;> cases ob <;> simp
  | true =>
    have := wLt_asymm h
    cases sa <;> cases sb <;> cases oa <;> cases ob <;> simp [this]
theorem comb_none (a : Option PClaim) : comb a none = a := by cases a <;> rfl
theorem comb_assoc (a b c : Option PClaim) : comb (comb a b) c = comb a (comb b c) := by
  cases a with
  | none => rfl
  | some a =>
    cases b with
    | none => rfl
    | some b =>
      cases c with
      | none => rw [comb_none, comb_none]
      | some c =>
        simp only [comb]
        cases h1 : beats b a <;> cases h2 : beats c b <;> simp only [comb, Bool.false_eq_true, if_false, if_true, h1, h2]
        · cases h3 : beats c a with
          | false => simp
          | true =>
            exfalso
            have := (beats_total a b).resolve_left (by rw [h1]; simp)
            have := beats_trans this h3
            rw [h2] at this; cases this
        · cases h3 : beats c a with
          | true => rfl
          | false =>
            have := beats_trans h1 h2
            rw [h3] at this; cases this
theorem winner_from (n : B) : ∀ (cs : List PClaim) (acc : Option PClaim), cs.foldl (winStep n) acc = comb acc (winner cs n)
  | [], acc => (comb_none acc).symm
  | c :: cs, acc => by
    unfold winner
    simp only [List.foldl_cons]
    rw [winner_from n cs (winStep n acc c), winner_from n cs (winStep n none c)]
    unfold winStep
    split
    · rw [comb_assoc]; rfl
    · rfl
theorem winner_app (a b : List PClaim) (n : B) : winner (a ++ b) n = comb (winner a n) (winner b n) := by
  unfold winner
  rw [List.foldl_append, winner_from]; rfl
theorem winner_cons (c : PClaim) (b : List PClaim) (n : B) : winner (c :: b) n = comb (if c.d.name = n then some c else none) (winner b n) := by
  have := winner_app [c] b n
  simp only [List.singleton_append] at this
  rw [this]
  congr 1
theorem winner_fact : ∀ (cs : List PClaim) (n : B), match winner cs n with
    | none => ∀ c ∈ cs, c.d.name ≠ n
    | some w => w ∈ cs ∧ w.d.name = n ∧ ∀ c ∈ cs, c.d.name = n → beats w c = true
  | [], n => by intro c hc; cases hc
  | c :: cs, n => by
    have ih := winner_fact cs n
    rw [winner_cons]
    cases hw : winner cs n with
    | none =>
      rw [hw] at ih
      simp only [comb_none]
      split
      · rename_i w hn
        split at hn
        · cases hn
        · rename_i h
          intro x hx
          rcases List.mem_cons.1 hx with rfl | hx
          · exact h
          · exact ih x hx
      · rename_i w hn
        split at hn
        · rename_i h
          cases hn
          refine ⟨by simp, h, fun x hx hxn => ?_⟩
          rcases List.mem_cons.1 hx with rfl | hx
          · exact beats_refl _
          · exact absurd hxn (ih x hx)
        · cases hn
    | some w =>
      rw [hw] at ih
      obtain ⟨h1, h2, h3⟩ := ih
      by_cases hc : c.d.name = n
      · rw [if_pos hc]
        simp only [comb]
        cases hb : beats w c with
        | true =>
          simp only [if_true]
          refine ⟨by simp [h1], h2, fun x hx hxn => ?_⟩
          rcases List.mem_cons.1 hx with rfl | hx
          · exact hb
          · exact h3 x hx hxn
        | false =>
          simp only [Bool.false_eq_true, if_false]
          have hcw := (beats_total w c).resolve_right (by rw [hb]; simp)
          refine ⟨by simp, hc, fun x hx hxn => ?_⟩
          rcases List.mem_cons.1 hx with rfl | hx
          · exact beats_refl _
          · exact beats_trans (h3 x hx hxn) hcw
      · rw [if_neg hc]
        simp only [comb]
        refine ⟨by simp [h1], h2, fun x hx hxn => ?_⟩
        rcases List.mem_cons.1 hx with rfl | hx
        · exact absurd hxn hc
        · exact h3 x hx hxn
inductive Rising : List B → Prop
  | nil : Rising []
  | cons {x : B} {xs : List B} (h : ∀ y ∈ xs, bLt x y = true) (hs : Rising xs) : Rising (x :: xs)
theorem mem_insName {n y : B} : ∀ {xs : List B}, y ∈ insName n xs ↔ y = n ∨ y ∈ xs
  | [] => by simp [insName]
  | x :: xs => by
    simp only [insName]
    split
    · simp
    · split
      · simp only [List.mem_cons, mem_insName (xs := xs)]
        constructor
        · rintro (h | h | h) <;> simp [h]
        · rintro (h | h | h) <;> simp [h]
      · rename_i h1 h2
        have : n = x := bLt_total (by simpa using h1) (by simpa using h2)
        subst this
        simp
theorem ins_rising {n : B} : ∀ {xs : List B}, Rising xs → Rising (insName n xs)
  | [], _ => .cons (by simp) .nil
  | x :: xs, h => by
    cases h with
    | cons h hs =>
      simp only [insName]
      split
      · rename_i h1
        refine .cons ?_ (.cons h hs)
        intro y hy
        rcases List.mem_cons.1 hy with rfl | hy
        · exact h1
        · exact bLt_trans h1 (h y hy)
      · split
        · rename_i h1 h2
          refine .cons ?_ (ins_rising hs)
          intro y hy
          rcases mem_insName.1 hy with rfl | hy
          · exact h2
          · exact h y hy
        · exact .cons h hs
theorem namesFrom (cs : List PClaim) : ∀ (acc : List B), Rising acc → Rising (cs.foldl (fun acc c => insName c.d.name acc) acc) ∧ ∀ n, n ∈ cs.foldl (fun acc c => insName c.d.name acc) acc ↔ n ∈ acc ∨ ∃ c ∈ cs, c.d.name = n := by
  induction cs with
  | nil => intro acc h; exact ⟨h, by simp⟩
  | cons c cs ih =>
    intro acc h
    have := ih _ (ins_rising (n := c.d.name) h)
    refine ⟨this.1, fun n => ?_⟩
    simp only [List.foldl_cons]
    rw [this.2, mem_insName]
    simp only [List.mem_cons, exists_eq_or_imp]
    constructor
    · rintro ((h | h) | h)
      · exact .inr (.inl h.symm)
      · exact .inl h
      · exact .inr (.inr h)
    · rintro (h | h | h)
      · exact .inl (.inr h)
      · exact .inl (.inl h.symm)
      · exact .inr h
theorem names_rising (cs : List PClaim) : Rising (namesOf cs) := (namesFrom cs [] .nil).1
theorem mem_names (cs : List PClaim) (n : B) : n ∈ namesOf cs ↔ ∃ c ∈ cs, c.d.name = n := by
  have := (namesFrom cs [] .nil).2 n
  unfold namesOf
  simpa using this
theorem winner_some {cs : List PClaim} {n : B} : (∃ c ∈ cs, c.d.name = n) ↔ winner cs n ≠ none := by
  have := winner_fact cs n
  cases h : winner cs n with
  | none =>
    rw [h] at this
    simp only [ne_eq, not_true_eq_false, iff_false]
    rintro ⟨c, hc, hn⟩
    exact this c hc hn
  | some w =>
    rw [h] at this
    simp only [ne_eq, reduceCtorEq, not_false_eq_true, iff_true]
    exact ⟨w, this.1, this.2.1⟩
theorem look_mem {cs : List PClaim} {d : PDecl} : d ∈ cLook cs ↔ ∃ c, winner cs d.name = some c ∧ c.d = d := by
  unfold cLook
  simp only [List.mem_filterMap, Option.map_eq_some_iff]
  constructor
  · rintro ⟨n, _, c, hc, rfl⟩
    have := winner_fact cs n
    rw [hc] at this
    exact ⟨c, by rw [this.2.1]; exact hc, rfl⟩
  · rintro ⟨c, hc, rfl⟩
    refine ⟨c.d.name, ?_, c, hc, rfl⟩
    rw [mem_names, winner_some, hc]; simp
theorem look_names (cs : List PClaim) : (cLook cs).map (·.name) = namesOf cs := by
  have : ∀ ns : List B, (∀ n ∈ ns, winner cs n ≠ none) → (ns.filterMap fun n => (winner cs n).map (·.d)).map (·.name) = ns := by
    intro ns
    induction ns with
    | nil => intro _; rfl
    | cons n ns ih =>
      intro h
      have h1 := h n (by simp)
      have h2 := winner_fact cs n
      cases hw : winner cs n with
      | none => exact absurd hw h1
      | some c =>
        rw [hw] at h2
        simp only [List.filterMap_cons, hw, Option.map_some, List.map_cons, h2.2.1]
        rw [ih (fun m hm => h m (by simp [hm]))]
  exact this _ fun n hn => winner_some.1 ((mem_names cs n).1 hn)
end Go.Proofs.YtplbdlgmjehckabGreatDoor

